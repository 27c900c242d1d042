/- The functions that the statements reach, printed as what the frame asks of them, each checked by the kernel against the loaded text. -/
import Derived.Test.YtlpmapeojecenaaProg
import Derived.Test.YtlpmapeojecenaaFwSound
namespace Go.Proofs.Ytlpmapeojecenaa.W
open Go Go.Fw Go.Proofs
set_option linter.unusedVariables false

theorem mixed : Try.prog.follows .mixedOrders = true := by kernel_rfl

abbrev fathomlaw13_ReduceKeeps.id : FuncId := 3
abbrev fathomlaw13_ReduceHalves.id : FuncId := 4
abbrev fathomlaw13_ReduceQuotas.id : FuncId := 5
abbrev fathomlaw01_LitNorms.id : FuncId := 6
abbrev fathomlaw01_LitValues.id : FuncId := 7
abbrev fathomlaw01_LitResolves.id : FuncId := 8
abbrev fathomlaw12_LearnChecks.id : FuncId := 9
abbrev fathomlaw01_LitHolds.id : FuncId := 10
abbrev fathomlaw01_LitGiven.id : FuncId := 11
abbrev fathomlaw12_LearnLearns.id : FuncId := 12
abbrev fathomlaw12_LearnTeaches.id : FuncId := 13
abbrev fathomlaw12_LearnAsserts.id : FuncId := 14
abbrev fathomlaw13_awake.id : FuncId := 15
abbrev reduce_Keep.id : FuncId := 16
abbrev reduce_Order.id : FuncId := 17
abbrev fathomref13_May.id : FuncId := 18
abbrev reduce_Check.id : FuncId := 19
abbrev fathomref13_Keep.id : FuncId := 20
abbrev fathomref13_Rank.id : FuncId := 21
abbrev fathomref13_Must.id : FuncId := 22
abbrev fathomref13_Better.id : FuncId := 23
abbrev reduce_Quota.id : FuncId := 24
abbrev reduce_Due.id : FuncId := 25
abbrev fathomref13_Quota.id : FuncId := 26
abbrev fathomlaw01_awake.id : FuncId := 27
abbrev lit_Norm.id : FuncId := 28
abbrev fathomref01_May.id : FuncId := 29
abbrev lit_Check.id : FuncId := 30
abbrev fathomref01_Ints.id : FuncId := 31
abbrev fathomref01_Order.id : FuncId := 32
abbrev fathomref01_Taut.id : FuncId := 33
abbrev lit_Within.id : FuncId := 34
abbrev lit_Value.id : FuncId := 35
abbrev fathomref01_Value.id : FuncId := 36
abbrev lit_Clause.id : FuncId := 37
abbrev fathomref01_Clause.id : FuncId := 38
abbrev lit_Resolve.id : FuncId := 39
abbrev fathomref01_Has.id : FuncId := 40
abbrev fathomref01_Without.id : FuncId := 41
abbrev fathomlaw12_light.id : FuncId := 42
abbrev fathomlaw12_awake.id : FuncId := 43
abbrev learn_Check.id : FuncId := 44
abbrev fathomlaw12_may.id : FuncId := 45
abbrev learn_Learn.id : FuncId := 46
abbrev fathomlaw01_Light.id : FuncId := 47
abbrev lit_Same.id : FuncId := 48
abbrev fathomref01_Same.id : FuncId := 49
abbrev fathomref01_Cnf.id : FuncId := 50
abbrev lit_CheckCnf.id : FuncId := 51
abbrev lit_Holds.id : FuncId := 52
abbrev fathomref01_Holds.id : FuncId := 53
abbrev lit_Given.id : FuncId := 54
abbrev fathomref01_Lit.id : FuncId := 55
abbrev fathomref01_Given.id : FuncId := 56
abbrev fathomref12_Learn.id : FuncId := 57
abbrev learn_Shorten.id : FuncId := 58
abbrev fathomref12_Shorten.id : FuncId := 59
abbrev fathomref12_Breaks.id : FuncId := 60
abbrev fathomref12_Level.id : FuncId := 61
abbrev learn_Back.id : FuncId := 62
abbrev learn_Levels.id : FuncId := 63
abbrev reduce_must.id : FuncId := 64
abbrev slices_SortFunc_int_int.id : FuncId := 65
abbrev reduce_Order_1.id : FuncId := 66
abbrev slices_Clone_int_int.id : FuncId := 67
abbrev lit_before.id : FuncId := 68
abbrev slices_Compact_int_int.id : FuncId := 69
abbrev slices_ContainsFunc_int_int.id : FuncId := 70
abbrev lit_Check_1.id : FuncId := 71
abbrev lit_is.id : FuncId := 72
abbrev fathomref01_Ahead.id : FuncId := 73
abbrev lit_Within_1.id : FuncId := 74
abbrev slices_Contains_int_int.id : FuncId := 75
abbrev lit_amount.id : FuncId := 76
abbrev fathomref01_Var.id : FuncId := 77
abbrev learn_sound.id : FuncId := 78
abbrev learn_breaks.id : FuncId := 79
abbrev fathomref12_May.id : FuncId := 80
abbrev learn_places.id : FuncId := 81
abbrev learn_study_add.id : FuncId := 82
abbrev learn_study_top.id : FuncId := 83
abbrev learn_study_ordered.id : FuncId := 84
abbrev slices_EqualFunc_int_int_int_int.id : FuncId := 85
abbrev lit_Same_1.id : FuncId := 86
abbrev slices_Equal_int_int.id : FuncId := 87
abbrev fathomref01_Lists.id : FuncId := 88
abbrev lit_CheckCnf_1.id : FuncId := 89
abbrev slices_DeleteFunc_int_int.id : FuncId := 90
abbrev lit_Given_1.id : FuncId := 91
abbrev fathomref12_Ordered.id : FuncId := 92
abbrev learn_study_level.id : FuncId := 93
abbrev learn_study_idle.id : FuncId := 94
abbrev fathomref12_Idle.id : FuncId := 95
abbrev fathomref12_At.id : FuncId := 96
abbrev learn_amount.id : FuncId := 97
abbrev slices_pdqsortCmpFunc_int.id : FuncId := 98
abbrev bits_Len.id : FuncId := 99
abbrev slices_IndexFunc_int_int.id : FuncId := 100
abbrev slices_Index_int_int.id : FuncId := 101
abbrev learn_reasoned.id : FuncId := 102
abbrev learn_study_ordered_1.id : FuncId := 103
abbrev slices_insertionSortCmpFunc_int.id : FuncId := 104
abbrev slices_heapSortCmpFunc_int.id : FuncId := 105
abbrev slices_breakPatternsCmpFunc_int.id : FuncId := 106
abbrev slices_choosePivotCmpFunc_int.id : FuncId := 107
abbrev slices_reverseRangeCmpFunc_int.id : FuncId := 108
abbrev slices_partialInsertionSortCmpFunc_int.id : FuncId := 109
abbrev slices_partitionEqualCmpFunc_int.id : FuncId := 110
abbrev slices_partitionCmpFunc_int.id : FuncId := 111
abbrev bits_Len32.id : FuncId := 112
abbrev bits_Len64.id : FuncId := 113
abbrev slices_siftDownCmpFunc_int.id : FuncId := 114
abbrev slices_nextPowerOfTwo.id : FuncId := 115
abbrev slices_xorshift_Next.id : FuncId := 116
abbrev slices_medianAdjacentCmpFunc_int.id : FuncId := 117
abbrev slices_medianCmpFunc_int.id : FuncId := 118
abbrev slices_order2CmpFunc_int.id : FuncId := 119
abbrev ty_int64 : TypeId := 2
theorem ty_int64.und : Try.prog.underlying 2 = some (.int .i64) := by kernel_rfl
theorem ty_int64.info : (Try.prog.info? 2).map (fun i => (i.zero, i.size, i.bytes)) = some (some (.int .i64 0), 1, 8) := by kernel_rfl
abbrev ty_int : TypeId := 3
theorem ty_int.und : Try.prog.underlying 3 = some (.int .i64) := by kernel_rfl
theorem ty_int.info : (Try.prog.info? 3).map (fun i => (i.zero, i.size, i.bytes)) = some (some (.int .i64 0), 1, 8) := by kernel_rfl
abbrev ty_bool : TypeId := 4
theorem ty_bool.und : Try.prog.underlying 4 = some .bool := by kernel_rfl
theorem ty_bool.info : (Try.prog.info? 4).map (fun i => (i.zero, i.size, i.bytes)) = some (some (.bool false), 1, 1) := by kernel_rfl
abbrev ty_uint8 : TypeId := 5
theorem ty_uint8.und : Try.prog.underlying 5 = some (.int .u8) := by kernel_rfl
theorem ty_uint8.info : (Try.prog.info? 5).map (fun i => (i.zero, i.size, i.bytes)) = some (some (.int .u8 0), 1, 1) := by kernel_rfl
abbrev ty_abi_BoundsErrorCode : TypeId := 6
theorem ty_abi_BoundsErrorCode.und : Try.prog.underlying 6 = some (.int .u8) := by kernel_rfl
theorem ty_abi_BoundsErrorCode.info : (Try.prog.info? 6).map (fun i => (i.zero, i.size, i.bytes)) = some (some (.int .u8 0), 1, 1) := by kernel_rfl
abbrev ty_runtime_boundsError : TypeId := 8
theorem ty_runtime_boundsError.info : (Try.prog.info? 8).map (fun i => (i.zero, i.size, i.bytes)) = some (some (.agg #[.int .i64 0, .int .i64 0, .bool false, .int .u8 0]), 4, 24) := by kernel_rfl
abbrev ty_uintptr : TypeId := 12
theorem ty_uintptr.und : Try.prog.underlying 12 = some (.int .u64) := by kernel_rfl
theorem ty_uintptr.info : (Try.prog.info? 12).map (fun i => (i.zero, i.size, i.bytes)) = some (some (.int .u64 0), 1, 8) := by kernel_rfl
abbrev ty_runtime_errorAddressString : TypeId := 14
theorem ty_runtime_errorAddressString.info : (Try.prog.info? 14).map (fun i => (i.zero, i.size, i.bytes)) = some (some (.agg #[.string (ByteArray.mk #[]), .int .u64 0]), 2, 24) := by kernel_rfl
abbrev ty_p_runtime_TypeAssertionError : TypeId := 15
theorem ty_p_runtime_TypeAssertionError.info : (Try.prog.info? 15).map (fun i => (i.zero, i.size, i.bytes)) = some (some (.pointer none), 1, 8) := by kernel_rfl
abbrev ty_p_runtime_PanicNilError : TypeId := 16
theorem ty_p_runtime_PanicNilError.info : (Try.prog.info? 16).map (fun i => (i.zero, i.size, i.bytes)) = some (some (.pointer none), 1, 8) := by kernel_rfl
abbrev ty_p_abi_Type : TypeId := 17
theorem ty_p_abi_Type.info : (Try.prog.info? 17).map (fun i => (i.zero, i.size, i.bytes)) = some (some (.pointer none), 1, 8) := by kernel_rfl
abbrev ty_maps_unhashableTypeError : TypeId := 19
theorem ty_maps_unhashableTypeError.info : (Try.prog.info? 19).map (fun i => (i.zero, i.size, i.bytes)) = some (some (.agg #[.pointer none]), 1, 8) := by kernel_rfl
abbrev ty_int32 : TypeId := 21
theorem ty_int32.und : Try.prog.underlying 21 = some (.int .i32) := by kernel_rfl
theorem ty_int32.info : (Try.prog.info? 21).map (fun i => (i.zero, i.size, i.bytes)) = some (some (.int .i32 0), 1, 4) := by kernel_rfl
abbrev ty_sl_api_Learnt : TypeId := 22
theorem ty_sl_api_Learnt.und : Try.prog.underlying 22 = some (.slice 35) := by kernel_rfl
theorem ty_sl_api_Learnt.info : (Try.prog.info? 22).map (fun i => (i.zero, i.size, i.bytes)) = some (some (.slice none 0 0), 1, 24) := by kernel_rfl
abbrev ty_sl_bool : TypeId := 24
theorem ty_sl_bool.und : Try.prog.underlying 24 = some (.slice 4) := by kernel_rfl
theorem ty_sl_bool.info : (Try.prog.info? 24).map (fun i => (i.zero, i.size, i.bytes)) = some (some (.slice none 0 0), 1, 24) := by kernel_rfl
abbrev ty_sl_int : TypeId := 26
theorem ty_sl_int.und : Try.prog.underlying 26 = some (.slice 3) := by kernel_rfl
theorem ty_sl_int.info : (Try.prog.info? 26).map (fun i => (i.zero, i.size, i.bytes)) = some (some (.slice none 0 0), 1, 24) := by kernel_rfl
abbrev ty_api_Errno : TypeId := 29
theorem ty_api_Errno.und : Try.prog.underlying 29 = some (.int .i64) := by kernel_rfl
theorem ty_api_Errno.info : (Try.prog.info? 29).map (fun i => (i.zero, i.size, i.bytes)) = some (some (.int .i64 0), 1, 8) := by kernel_rfl
abbrev ty_api_Learnt : TypeId := 35
theorem ty_api_Learnt.info : (Try.prog.info? 35).map (fun i => (i.zero, i.size, i.bytes)) = some (some (.agg #[.int .i64 0, .int .i64 0, .bool false]), 3, 24) := by kernel_rfl
abbrev ty_fathomlaw01_Point : TypeId := 49
theorem ty_fathomlaw01_Point.info : (Try.prog.info? 49).map (fun i => (i.zero, i.size, i.bytes)) = some (some (.agg #[.slice none 0 0, .int .i64 0]), 2, 32) := by kernel_rfl
abbrev ty_sl_api_Assign : TypeId := 55
theorem ty_sl_api_Assign.und : Try.prog.underlying 55 = some (.slice 73) := by kernel_rfl
theorem ty_sl_api_Assign.info : (Try.prog.info? 55).map (fun i => (i.zero, i.size, i.bytes)) = some (some (.slice none 0 0), 1, 24) := by kernel_rfl
abbrev ty_sl_sl_int : TypeId := 59
theorem ty_sl_sl_int.und : Try.prog.underlying 59 = some (.slice 26) := by kernel_rfl
theorem ty_sl_sl_int.info : (Try.prog.info? 59).map (fun i => (i.zero, i.size, i.bytes)) = some (some (.slice none 0 0), 1, 24) := by kernel_rfl
abbrev ty_api_Cnf : TypeId := 61
theorem ty_api_Cnf.info : (Try.prog.info? 61).map (fun i => (i.zero, i.size, i.bytes)) = some (some (.agg #[.int .i64 0, .slice none 0 0]), 2, 32) := by kernel_rfl
abbrev ty_api_Assign : TypeId := 73
theorem ty_api_Assign.info : (Try.prog.info? 73).map (fun i => (i.zero, i.size, i.bytes)) = some (some (.agg #[.int .i64 0, .int .i64 0, .slice none 0 0]), 3, 40) := by kernel_rfl
abbrev ty_p_learn_study : TypeId := 81
theorem ty_p_learn_study.info : (Try.prog.info? 81).map (fun i => (i.zero, i.size, i.bytes)) = some (some (.pointer none), 1, 8) := by kernel_rfl
abbrev ty_map_int_int : TypeId := 82
theorem ty_map_int_int.und : Try.prog.underlying 82 = some (.map 3 3) := by kernel_rfl
theorem ty_map_int_int.info : (Try.prog.info? 82).map (fun i => (i.zero, i.size, i.bytes)) = some (some (.map none), 1, 8) := by kernel_rfl
abbrev ty_map_int_bool : TypeId := 84
theorem ty_map_int_bool.und : Try.prog.underlying 84 = some (.map 3 4) := by kernel_rfl
theorem ty_map_int_bool.info : (Try.prog.info? 84).map (fun i => (i.zero, i.size, i.bytes)) = some (some (.map none), 1, 8) := by kernel_rfl
abbrev ty_learn_study : TypeId := 86
theorem ty_learn_study.info : (Try.prog.info? 86).map (fun i => (i.zero, i.size, i.bytes)) = some (some (.agg #[.slice none 0 0, .map none, .map none]), 3, 40) := by kernel_rfl
abbrev ty_uint : TypeId := 98
theorem ty_uint.und : Try.prog.underlying 98 = some (.int .u64) := by kernel_rfl
theorem ty_uint.info : (Try.prog.info? 98).map (fun i => (i.zero, i.size, i.bytes)) = some (some (.int .u64 0), 1, 8) := by kernel_rfl
abbrev ty_slices_sortedHint : TypeId := 103
theorem ty_slices_sortedHint.und : Try.prog.underlying 103 = some (.int .i64) := by kernel_rfl
theorem ty_slices_sortedHint.info : (Try.prog.info? 103).map (fun i => (i.zero, i.size, i.bytes)) = some (some (.int .i64 0), 1, 8) := by kernel_rfl
abbrev ty_uint32 : TypeId := 111
theorem ty_uint32.und : Try.prog.underlying 111 = some (.int .u32) := by kernel_rfl
theorem ty_uint32.info : (Try.prog.info? 111).map (fun i => (i.zero, i.size, i.bytes)) = some (some (.int .u32 0), 1, 4) := by kernel_rfl
abbrev ty_uint64 : TypeId := 113
theorem ty_uint64.und : Try.prog.underlying 113 = some (.int .u64) := by kernel_rfl
theorem ty_uint64.info : (Try.prog.info? 113).map (fun i => (i.zero, i.size, i.bytes)) = some (some (.int .u64 0), 1, 8) := by kernel_rfl
abbrev ty_slices_xorshift : TypeId := 114
theorem ty_slices_xorshift.und : Try.prog.underlying 114 = some (.int .u64) := by kernel_rfl
theorem ty_slices_xorshift.info : (Try.prog.info? 114).map (fun i => (i.zero, i.size, i.bytes)) = some (some (.int .u64 0), 1, 8) := by kernel_rfl
abbrev ty_p_int : TypeId := 118
theorem ty_p_int.info : (Try.prog.info? 118).map (fun i => (i.zero, i.size, i.bytes)) = some (some (.pointer none), 1, 8) := by kernel_rfl
abbrev ty_p_slices_xorshift : TypeId := 120
theorem ty_p_slices_xorshift.info : (Try.prog.info? 120).map (fun i => (i.zero, i.size, i.bytes)) = some (some (.pointer none), 1, 8) := by kernel_rfl
abbrev ty_runtime_TypeAssertionError : TypeId := 125
theorem ty_runtime_TypeAssertionError.info : (Try.prog.info? 125).map (fun i => (i.zero, i.size, i.bytes)) = some (some (.agg #[.pointer none, .pointer none, .pointer none, .string (ByteArray.mk #[])]), 4, 40) := by kernel_rfl
abbrev ty_runtime_PanicNilError : TypeId := 128
theorem ty_runtime_PanicNilError.info : (Try.prog.info? 128).map (fun i => (i.zero, i.size, i.bytes)) = some (some (.agg #[]), 0, 0) := by kernel_rfl
abbrev ty_abi_TFlag : TypeId := 130
theorem ty_abi_TFlag.und : Try.prog.underlying 130 = some (.int .u8) := by kernel_rfl
theorem ty_abi_TFlag.info : (Try.prog.info? 130).map (fun i => (i.zero, i.size, i.bytes)) = some (some (.int .u8 0), 1, 1) := by kernel_rfl
abbrev ty_abi_Kind : TypeId := 131
theorem ty_abi_Kind.und : Try.prog.underlying 131 = some (.int .u8) := by kernel_rfl
theorem ty_abi_Kind.info : (Try.prog.info? 131).map (fun i => (i.zero, i.size, i.bytes)) = some (some (.int .u8 0), 1, 1) := by kernel_rfl
abbrev ty_p_uint8 : TypeId := 133
theorem ty_p_uint8.info : (Try.prog.info? 133).map (fun i => (i.zero, i.size, i.bytes)) = some (some (.pointer none), 1, 8) := by kernel_rfl
abbrev ty_abi_NameOff : TypeId := 134
theorem ty_abi_NameOff.und : Try.prog.underlying 134 = some (.int .i32) := by kernel_rfl
theorem ty_abi_NameOff.info : (Try.prog.info? 134).map (fun i => (i.zero, i.size, i.bytes)) = some (some (.int .i32 0), 1, 4) := by kernel_rfl
abbrev ty_abi_TypeOff : TypeId := 135
theorem ty_abi_TypeOff.und : Try.prog.underlying 135 = some (.int .i32) := by kernel_rfl
theorem ty_abi_TypeOff.info : (Try.prog.info? 135).map (fun i => (i.zero, i.size, i.bytes)) = some (some (.int .i32 0), 1, 4) := by kernel_rfl
abbrev ty_abi_Type : TypeId := 137
theorem ty_abi_Type.info : (Try.prog.info? 137).map (fun i => (i.zero, i.size, i.bytes)) = some (some (.agg #[.int .u64 0, .int .u64 0, .int .u32 0, .int .u8 0, .int .u8 0, .int .u8 0, .int .u8 0, .nilFunc, .pointer none, .int .i32 0, .int .i32 0]), 11, 48) := by kernel_rfl
def strtab0 : ByteArray := (ByteArray.mk #[0, 1, 2, 2, 3, 3, 3, 3, 4, 4, 4, 4, 4, 4, 4, 4, 5, 5, 5, 5, 5, 5, 5, 5, 5, 5, 5, 5, 5, 5, 5, 5, 6, 6, 6, 6, 6, 6, 6, 6, 6, 6, 6, 6, 6, 6, 6, 6, 6, 6, 6, 6, 6, 6, 6, 6, 6, 6, 6, 6, 6, 6, 6, 6, 7, 7, 7, 7, 7, 7, 7, 7, 7, 7, 7, 7, 7, 7, 7, 7, 7, 7, 7, 7, 7, 7, 7, 7, 7, 7, 7, 7, 7, 7, 7, 7, 7, 7, 7, 7, 7, 7, 7, 7, 7, 7, 7, 7, 7, 7, 7, 7, 7, 7, 7, 7, 7, 7, 7, 7, 7, 7, 7, 7, 7, 7, 7, 7, 8, 8, 8, 8, 8, 8, 8, 8, 8, 8, 8, 8, 8, 8, 8, 8, 8, 8, 8, 8, 8, 8, 8, 8, 8, 8, 8, 8, 8, 8, 8, 8, 8, 8, 8, 8, 8, 8, 8, 8, 8, 8, 8, 8, 8, 8, 8, 8, 8, 8, 8, 8, 8, 8, 8, 8, 8, 8, 8, 8, 8, 8, 8, 8, 8, 8, 8, 8, 8, 8, 8, 8, 8, 8, 8, 8, 8, 8, 8, 8, 8, 8, 8, 8, 8, 8, 8, 8, 8, 8, 8, 8, 8, 8, 8, 8, 8, 8, 8, 8, 8, 8, 8, 8, 8, 8, 8, 8, 8, 8, 8, 8, 8, 8, 8, 8, 8, 8, 8, 8, 8, 8, 8, 8, 8, 8, 8, 8])

/-! ### fathom/fathomlaw01.LitNorms: function 6 (named slots 5) -/
def fathomlaw01_LitNorms.w (c__p : Option Addr) (c__n : Nat) (c__c : Nat) (w : World) (K : Value → World → Prop) : Prop :=
  cnd (decide ((c__n : Int) > (5000 : Int)))
  (Calls Try.prog 27 #[] w fun e w1 => ∃ r2 : Bool, e = .returned (.bool r2) ∧ 
    K (.bool r2) w1)
  (Calls Try.prog 28 #[.slice c__p c__n c__c] w fun e w3 => ∃ r4_p : Option Addr, ∃ r4_n : Nat, ∃ r4_c : Nat, ∃ r5 : Bool, e = .returned (.tuple #[.slice r4_p r4_n r4_c, .bool r5]) ∧ 
    Calls Try.prog 29 #[.slice c__p c__n c__c] w3 fun e w6 => ∃ r7 : Bool, e = .returned (.bool r7) ∧ 
    cnd (!r7)
    (Calls Try.prog 30 #[.slice c__p c__n c__c] w6 fun e w8 => ∃ r9 : Int, e = .returned (.int .i64 r9) ∧ 
      cnd (r9 == (1 : Int))
      (cnd ((r4_n : Int) == (0 : Int))
      (cnd (!r5)
      (Calls Try.prog 27 #[] w8 fun e w10 => ∃ r11 : Bool, e = .returned (.bool r11) ∧ 
      K (.bool r11) w10)
      (K (.bool false) w8))
      (K (.bool false) w8))
      (K (.bool false) w8))
    (cnd (decide ((c__n : Int) > (600 : Int)))
      (Calls Try.prog 30 #[.slice c__p c__n c__c] w6 fun e w12 => ∃ r13 : Int, e = .returned (.int .i64 r13) ∧ 
        cnd (r13 == (0 : Int))
        (Calls Try.prog 27 #[] w12 fun e w14 => ∃ r15 : Bool, e = .returned (.bool r15) ∧ 
        K (.bool r15) w14)
        (K (.bool false) w12))
      (Calls Try.prog 30 #[.slice c__p c__n c__c] w6 fun e w16 => ∃ r17 : Int, e = .returned (.int .i64 r17) ∧ 
        cnd (r17 == (0 : Int))
        (Calls Try.prog 32 #[.slice c__p c__n c__c] w16 fun e w18 => ∃ r19_p : Option Addr, ∃ r19_n : Nat, ∃ r19_c : Nat, e = .returned (.slice r19_p r19_n r19_c) ∧ 
        Calls Try.prog 31 #[.slice r4_p r4_n r4_c, .slice r19_p r19_n r19_c] w18 fun e w20 => ∃ r21 : Bool, e = .returned (.bool r21) ∧ 
        cnd r21
        (Calls Try.prog 33 #[.slice c__p c__n c__c] w20 fun e w22 => ∃ r23 : Bool, e = .returned (.bool r23) ∧ 
        cnd (r5 == r23)
        (Calls Try.prog 34 #[.slice r4_p r4_n r4_c, .slice c__p c__n c__c] w22 fun e w24 => ∃ r25 : Bool, e = .returned (.bool r25) ∧ 
        cnd r25
        (Calls Try.prog 34 #[.slice c__p c__n c__c, .slice r4_p r4_n r4_c] w24 fun e w26 => ∃ r27 : Bool, e = .returned (.bool r27) ∧ 
        cnd r27
        (Calls Try.prog 27 #[] w26 fun e w28 => ∃ r29 : Bool, e = .returned (.bool r29) ∧ 
        K (.bool r29) w28)
        (K (.bool false) w26))
        (K (.bool false) w24))
        (K (.bool false) w22))
        (K (.bool false) w20))
        (K (.bool false) w16))))
theorem fathomlaw01_LitNorms.eq (c__p : Option Addr) (c__n : Nat) (c__c : Nat) (w : World) (K : Value → World → Prop) : wpF Try.prog Try.f6 .leaf [.slice c__p c__n c__c] w K = fathomlaw01_LitNorms.w c__p c__n c__c w K := by kernel_rfl
theorem fathomlaw01_LitNorms.ok : fnOk Try.prog Try.f6 1 = true := by kernel_rfl
theorem fathomlaw01_LitNorms.calls {c__p : Option Addr} {c__n : Nat} {c__c : Nat} {w : World} {R : Ending → World → Prop} (h : fathomlaw01_LitNorms.w c__p c__n c__c w fun v w' => R (.returned v) w') : Calls Try.prog 6 #[.slice c__p c__n c__c] w R :=
  calls_of mixed Try.func6 fathomlaw01_LitNorms.ok rfl (fun K => fathomlaw01_LitNorms.eq c__p c__n c__c w K) h

/-! ### fathom/fathomlaw01.LitValues: function 7 (named slots 9) -/
def fathomlaw01_LitValues.w (m__p : Option Addr) (m__n : Nat) (m__c : Nat) (c__p : Option Addr) (c__n : Nat) (c__c : Nat) (l_ : Int) (w : World) (K : Value → World → Prop) : Prop :=
  cnd (decide ((c__n : Int) > (600 : Int)))
  (Calls Try.prog 27 #[] w fun e w1 => ∃ r2 : Bool, e = .returned (.bool r2) ∧ 
    K (.bool r2) w1)
  (Calls Try.prog 35 #[.slice m__p m__n m__c, .int .i64 l_] w fun e w3 => ∃ r4 : Int, e = .returned (.int .i64 r4) ∧ 
    Calls Try.prog 36 #[.slice m__p m__n m__c, .int .i64 l_] w3 fun e w5 => ∃ r6 : Int, e = .returned (.int .i64 r6) ∧ 
    cnd (r4 != r6)
    (K (.bool false) w5)
    (Calls Try.prog 29 #[.slice c__p c__n c__c] w5 fun e w7 => ∃ r8 : Bool, e = .returned (.bool r8) ∧ 
      cnd (!r8)
      (Calls Try.prog 37 #[.slice m__p m__n m__c, .slice c__p c__n c__c] w7 fun e w9 => ∃ r10 : Int, e = .returned (.int .i64 r10) ∧ 
        cnd (r10 == (0 : Int))
        (Calls Try.prog 27 #[] w9 fun e w11 => ∃ r12 : Bool, e = .returned (.bool r12) ∧ 
        K (.bool r12) w11)
        (K (.bool false) w9))
      (Calls Try.prog 28 #[.slice c__p c__n c__c] w7 fun e w13 => ∃ r14_p : Option Addr, ∃ r14_n : Nat, ∃ r14_c : Nat, ∃ r15 : Bool, e = .returned (.tuple #[.slice r14_p r14_n r14_c, .bool r15]) ∧ 
        Calls Try.prog 37 #[.slice m__p m__n m__c, .slice c__p c__n c__c] w13 fun e w16 => ∃ r17 : Int, e = .returned (.int .i64 r17) ∧ 
        Calls Try.prog 38 #[.slice m__p m__n m__c, .slice c__p c__n c__c] w16 fun e w18 => ∃ r19 : Int, e = .returned (.int .i64 r19) ∧ 
        cnd (r17 == r19)
        (Calls Try.prog 37 #[.slice m__p m__n m__c, .slice r14_p r14_n r14_c] w18 fun e w20 => ∃ r21 : Int, e = .returned (.int .i64 r21) ∧ 
        Calls Try.prog 37 #[.slice m__p m__n m__c, .slice c__p c__n c__c] w20 fun e w22 => ∃ r23 : Int, e = .returned (.int .i64 r23) ∧ 
        cnd (r21 == r23)
        (Calls Try.prog 27 #[] w22 fun e w24 => ∃ r25 : Bool, e = .returned (.bool r25) ∧ 
        K (.bool r25) w24)
        (K (.bool false) w22))
        (K (.bool false) w18))))
theorem fathomlaw01_LitValues.eq (m__p : Option Addr) (m__n : Nat) (m__c : Nat) (c__p : Option Addr) (c__n : Nat) (c__c : Nat) (l_ : Int) (w : World) (K : Value → World → Prop) : wpF Try.prog Try.f7 .leaf [.slice m__p m__n m__c, .slice c__p c__n c__c, .int .i64 l_] w K = fathomlaw01_LitValues.w m__p m__n m__c c__p c__n c__c l_ w K := by kernel_rfl
theorem fathomlaw01_LitValues.ok : fnOk Try.prog Try.f7 3 = true := by kernel_rfl
theorem fathomlaw01_LitValues.calls {m__p : Option Addr} {m__n : Nat} {m__c : Nat} {c__p : Option Addr} {c__n : Nat} {c__c : Nat} {l_ : Int} {w : World} {R : Ending → World → Prop} (h : fathomlaw01_LitValues.w m__p m__n m__c c__p c__n c__c l_ w fun v w' => R (.returned v) w') : Calls Try.prog 7 #[.slice m__p m__n m__c, .slice c__p c__n c__c, .int .i64 l_] w R :=
  calls_of mixed Try.func7 fathomlaw01_LitValues.ok rfl (fun K => fathomlaw01_LitValues.eq m__p m__n m__c c__p c__n c__c l_ w K) h

/-! ### fathom/fathomlaw01.LitResolves: function 8 (named slots 10) -/
def fathomlaw01_LitResolves.w (a__p : Option Addr) (a__n : Nat) (a__c : Nat) (b__p : Option Addr) (b__n : Nat) (b__c : Nat) (x2_0_p : Option Addr) (x2_0_n : Nat) (x2_0_c : Nat) (x2_1 : Int) (w : World) (K : Value → World → Prop) : Prop :=
  ∀ (n1 : Nat) (w2 : World), New (.cells #[.slice x2_0_p x2_0_n x2_0_c, .int .i64 x2_1] 49) w n1 w2 → 
  cnd (decide ((a__n : Int) > (600 : Int)))
  (Calls Try.prog 27 #[] w2 fun e w3 => ∃ r4 : Bool, e = .returned (.bool r4) ∧ 
  K (.bool r4) w3)
  (cnd (decide ((b__n : Int) > (600 : Int)))
  (Calls Try.prog 27 #[] w2 fun e w5 => ∃ r6 : Bool, e = .returned (.bool r6) ∧ 
    K (.bool r6) w5)
  (∃ x7 : Int, w2.cell? ((Addr.mk n1 0 none).add 1) = some (.int .i64 x7) ∧ 
    Calls Try.prog 39 #[.slice a__p a__n a__c, .slice b__p b__n b__c, .int .i64 x7] w2 fun e w8 => ∃ r9_p : Option Addr, ∃ r9_n : Nat, ∃ r9_c : Nat, ∃ r10 : Int, e = .returned (.tuple #[.slice r9_p r9_n r9_c, .int .i64 r10]) ∧ 
    Calls Try.prog 29 #[.slice a__p a__n a__c] w8 fun e w11 => ∃ r12 : Bool, e = .returned (.bool r12) ∧ 
    cnd (!r12)
    (cnd (r10 == (1 : Int))
    (cnd ((r9_n : Int) == (0 : Int))
    (Calls Try.prog 27 #[] w11 fun e w13 => ∃ r14 : Bool, e = .returned (.bool r14) ∧ 
    K (.bool r14) w13)
    (K (.bool false) w11))
    (K (.bool false) w11))
    (Calls Try.prog 29 #[.slice b__p b__n b__c] w11 fun e w15 => ∃ r16 : Bool, e = .returned (.bool r16) ∧ 
    cnd (!r16)
    (cnd (r10 == (1 : Int))
    (cnd ((r9_n : Int) == (0 : Int))
    (Calls Try.prog 27 #[] w15 fun e w17 => ∃ r18 : Bool, e = .returned (.bool r18) ∧ 
    K (.bool r18) w17)
    (K (.bool false) w15))
    (K (.bool false) w15))
    (∃ x19 : Int, w15.cell? ((Addr.mk n1 0 none).add 1) = some (.int .i64 x19) ∧ 
    cnd (decide (x19 < (1 : Int)))
    (cnd (r10 == (1 : Int))
    (cnd ((r9_n : Int) == (0 : Int))
    (Calls Try.prog 27 #[] w15 fun e w20 => ∃ r21 : Bool, e = .returned (.bool r21) ∧ 
    K (.bool r21) w20)
    (K (.bool false) w15))
    (K (.bool false) w15))
    (∃ x22 : Int, w15.cell? ((Addr.mk n1 0 none).add 1) = some (.int .i64 x22) ∧ 
    cnd (decide (x22 > (1048576 : Int)))
    (cnd (r10 == (1 : Int))
      (cnd ((r9_n : Int) == (0 : Int))
      (Calls Try.prog 27 #[] w15 fun e w23 => ∃ r24 : Bool, e = .returned (.bool r24) ∧ 
      K (.bool r24) w23)
      (K (.bool false) w15))
      (K (.bool false) w15))
    (∃ x25 : Int, w15.cell? ((Addr.mk n1 0 none).add 1) = some (.int .i64 x25) ∧ 
      Calls Try.prog 40 #[.slice a__p a__n a__c, .int .i64 x25] w15 fun e w26 => ∃ r27 : Bool, e = .returned (.bool r27) ∧ 
      cnd (!r27)
      (cnd (r10 == (4 : Int))
      (cnd ((r9_n : Int) == (0 : Int))
      (Calls Try.prog 27 #[] w26 fun e w28 => ∃ r29 : Bool, e = .returned (.bool r29) ∧ 
      K (.bool r29) w28)
      (K (.bool false) w26))
      (K (.bool false) w26))
      (∃ x30 : Int, w26.cell? ((Addr.mk n1 0 none).add 1) = some (.int .i64 x30) ∧ 
      Calls Try.prog 40 #[.slice b__p b__n b__c, .int .i64 (IntKind.i64.wrap (0 - x30))] w26 fun e w31 => ∃ r32 : Bool, e = .returned (.bool r32) ∧ 
      cnd (!r32)
      (cnd (r10 == (4 : Int))
        (cnd ((r9_n : Int) == (0 : Int))
        (Calls Try.prog 27 #[] w31 fun e w33 => ∃ r34 : Bool, e = .returned (.bool r34) ∧ 
        K (.bool r34) w33)
        (K (.bool false) w31))
        (K (.bool false) w31))
      (∀ (n35 : Nat) (w36 : World), New (.cells #[] 3) w31 n35 w36 → 
        ∃ x37 : Int, w36.cell? ((Addr.mk n1 0 none).add 1) = some (.int .i64 x37) ∧ 
        Calls Try.prog 41 #[.slice a__p a__n a__c, .int .i64 x37] w36 fun e w38 => ∃ r39_p : Option Addr, ∃ r39_n : Nat, ∃ r39_c : Nat, e = .returned (.slice r39_p r39_n r39_c) ∧ 
        ∃ w40 : World, ∃ r41_p : Option Addr, ∃ r41_n : Nat, ∃ r41_c : Nat, (Builtin.append_ #[26, 26] 26 #[.slice (some (Addr.mk n35 0 none)) 0 0, .slice r39_p r39_n r39_c]).run Try.prog w38 = .ok (.slice r41_p r41_n r41_c) w40 ∧ 
        ∃ x42 : Int, w40.cell? ((Addr.mk n1 0 none).add 1) = some (.int .i64 x42) ∧ 
        Calls Try.prog 41 #[.slice b__p b__n b__c, .int .i64 (IntKind.i64.wrap (0 - x42))] w40 fun e w43 => ∃ r44_p : Option Addr, ∃ r44_n : Nat, ∃ r44_c : Nat, e = .returned (.slice r44_p r44_n r44_c) ∧ 
        ∃ w45 : World, ∃ r46_p : Option Addr, ∃ r46_n : Nat, ∃ r46_c : Nat, (Builtin.append_ #[26, 26] 26 #[.slice r41_p r41_n r41_c, .slice r44_p r44_n r44_c]).run Try.prog w43 = .ok (.slice r46_p r46_n r46_c) w45 ∧ 
        cnd (r10 != (0 : Int))
        (K (.bool false) w45)
        (Calls Try.prog 32 #[.slice r46_p r46_n r46_c] w45 fun e w47 => ∃ r48_p : Option Addr, ∃ r48_n : Nat, ∃ r48_c : Nat, e = .returned (.slice r48_p r48_n r48_c) ∧ 
        Calls Try.prog 31 #[.slice r9_p r9_n r9_c, .slice r48_p r48_n r48_c] w47 fun e w49 => ∃ r50 : Bool, e = .returned (.bool r50) ∧ 
        cnd (!r50)
        (K (.bool false) w49)
        (∃ x51_p : Option Addr, ∃ x51_n : Nat, ∃ x51_c : Nat, w49.cell? ((Addr.mk n1 0 none).add 0) = some (.slice x51_p x51_n x51_c) ∧ 
          Calls Try.prog 38 #[.slice x51_p x51_n x51_c, .slice a__p a__n a__c] w49 fun e w52 => ∃ r53 : Int, e = .returned (.int .i64 r53) ∧ 
          cnd (r53 == (1 : Int))
          (∃ x54_p : Option Addr, ∃ x54_n : Nat, ∃ x54_c : Nat, w52.cell? ((Addr.mk n1 0 none).add 0) = some (.slice x54_p x54_n x54_c) ∧ 
          Calls Try.prog 38 #[.slice x54_p x54_n x54_c, .slice b__p b__n b__c] w52 fun e w55 => ∃ r56 : Int, e = .returned (.int .i64 r56) ∧ 
          cnd (r56 == (1 : Int))
          (∃ x57_p : Option Addr, ∃ x57_n : Nat, ∃ x57_c : Nat, w55.cell? ((Addr.mk n1 0 none).add 0) = some (.slice x57_p x57_n x57_c) ∧ 
          ∃ x58 : Int, w55.cell? ((Addr.mk n1 0 none).add 1) = some (.int .i64 x58) ∧ 
          Calls Try.prog 36 #[.slice x57_p x57_n x57_c, .int .i64 x58] w55 fun e w59 => ∃ r60 : Int, e = .returned (.int .i64 r60) ∧ 
          cnd (r60 != (0 : Int))
          (∃ x61_p : Option Addr, ∃ x61_n : Nat, ∃ x61_c : Nat, w59.cell? ((Addr.mk n1 0 none).add 0) = some (.slice x61_p x61_n x61_c) ∧ 
            Calls Try.prog 37 #[.slice x61_p x61_n x61_c, .slice r9_p r9_n r9_c] w59 fun e w62 => ∃ r63 : Int, e = .returned (.int .i64 r63) ∧ 
            cnd (r63 == (1 : Int))
            (Calls Try.prog 27 #[] w62 fun e w64 => ∃ r65 : Bool, e = .returned (.bool r65) ∧ 
            K (.bool r65) w64)
            (K (.bool false) w62))
          (Calls Try.prog 27 #[] w59 fun e w66 => ∃ r67 : Bool, e = .returned (.bool r67) ∧ 
            K (.bool r67) w66))
          (Calls Try.prog 27 #[] w55 fun e w68 => ∃ r69 : Bool, e = .returned (.bool r69) ∧ 
          K (.bool r69) w68))
          (Calls Try.prog 27 #[] w52 fun e w70 => ∃ r71 : Bool, e = .returned (.bool r71) ∧ 
          K (.bool r71) w70)))))))))))
theorem fathomlaw01_LitResolves.eq (a__p : Option Addr) (a__n : Nat) (a__c : Nat) (b__p : Option Addr) (b__n : Nat) (b__c : Nat) (x2_0_p : Option Addr) (x2_0_n : Nat) (x2_0_c : Nat) (x2_1 : Int) (w : World) (K : Value → World → Prop) : wpF Try.prog Try.f8 .leaf [.slice a__p a__n a__c, .slice b__p b__n b__c, .agg #[.slice x2_0_p x2_0_n x2_0_c, .int .i64 x2_1]] w K = fathomlaw01_LitResolves.w a__p a__n a__c b__p b__n b__c x2_0_p x2_0_n x2_0_c x2_1 w K := by kernel_rfl
theorem fathomlaw01_LitResolves.ok : fnOk Try.prog Try.f8 3 = true := by kernel_rfl
theorem fathomlaw01_LitResolves.calls {a__p : Option Addr} {a__n : Nat} {a__c : Nat} {b__p : Option Addr} {b__n : Nat} {b__c : Nat} {x2_0_p : Option Addr} {x2_0_n : Nat} {x2_0_c : Nat} {x2_1 : Int} {w : World} {R : Ending → World → Prop} (h : fathomlaw01_LitResolves.w a__p a__n a__c b__p b__n b__c x2_0_p x2_0_n x2_0_c x2_1 w fun v w' => R (.returned v) w') : Calls Try.prog 8 #[.slice a__p a__n a__c, .slice b__p b__n b__c, .agg #[.slice x2_0_p x2_0_n x2_0_c, .int .i64 x2_1]] w R :=
  calls_of mixed Try.func8 fathomlaw01_LitResolves.ok rfl (fun K => fathomlaw01_LitResolves.eq a__p a__n a__c b__p b__n b__c x2_0_p x2_0_n x2_0_c x2_1 w K) h

/-! ### fathom/fathomlaw12.LearnChecks: function 9 (named slots 8) -/
def fathomlaw12_LearnChecks.w (t__p : Option Addr) (t__n : Nat) (t__c : Nat) (c__p : Option Addr) (c__n : Nat) (c__c : Nat) (w : World) (K : Value → World → Prop) : Prop :=
  Calls Try.prog 42 #[.slice t__p t__n t__c, .slice c__p c__n c__c] w fun e w1 => ∃ r2 : Bool, e = .returned (.bool r2) ∧ 
  cnd (!r2)
  (Calls Try.prog 43 #[] w1 fun e w3 => ∃ r4 : Bool, e = .returned (.bool r4) ∧ 
    K (.bool r4) w3)
  (Calls Try.prog 44 #[.slice t__p t__n t__c, .slice c__p c__n c__c] w1 fun e w5 => ∃ r6 : Int, e = .returned (.int .i64 r6) ∧ 
    Calls Try.prog 45 #[.slice t__p t__n t__c, .slice c__p c__n c__c] w5 fun e w7 => ∃ r8 : Bool, e = .returned (.bool r8) ∧ 
    cnd (!r8)
    (Calls Try.prog 46 #[.slice t__p t__n t__c, .slice c__p c__n c__c] w7 fun e w9 => ∃ r10_p : Option Addr, ∃ r10_n : Nat, ∃ r10_c : Nat, ∃ r11 : Int, e = .returned (.tuple #[.slice r10_p r10_n r10_c, .int .i64 r11]) ∧ 
      cnd (r6 == (1 : Int))
      (cnd (r11 == (1 : Int))
      (cnd ((r10_n : Int) == (0 : Int))
      (Calls Try.prog 43 #[] w9 fun e w12 => ∃ r13 : Bool, e = .returned (.bool r13) ∧ 
      K (.bool r13) w12)
      (K (.bool false) w9))
      (K (.bool false) w9))
      (K (.bool false) w9))
    (cnd (r6 == (0 : Int))
      (Calls Try.prog 43 #[] w7 fun e w14 => ∃ r15 : Bool, e = .returned (.bool r15) ∧ 
      K (.bool r15) w14)
      (K (.bool false) w7)))
theorem fathomlaw12_LearnChecks.eq (t__p : Option Addr) (t__n : Nat) (t__c : Nat) (c__p : Option Addr) (c__n : Nat) (c__c : Nat) (w : World) (K : Value → World → Prop) : wpF Try.prog Try.f9 .leaf [.slice t__p t__n t__c, .slice c__p c__n c__c] w K = fathomlaw12_LearnChecks.w t__p t__n t__c c__p c__n c__c w K := by kernel_rfl
theorem fathomlaw12_LearnChecks.ok : fnOk Try.prog Try.f9 2 = true := by kernel_rfl
theorem fathomlaw12_LearnChecks.calls {t__p : Option Addr} {t__n : Nat} {t__c : Nat} {c__p : Option Addr} {c__n : Nat} {c__c : Nat} {w : World} {R : Ending → World → Prop} (h : fathomlaw12_LearnChecks.w t__p t__n t__c c__p c__n c__c w fun v w' => R (.returned v) w') : Calls Try.prog 9 #[.slice t__p t__n t__c, .slice c__p c__n c__c] w R :=
  calls_of mixed Try.func9 fathomlaw12_LearnChecks.ok rfl (fun K => fathomlaw12_LearnChecks.eq t__p t__n t__c c__p c__n c__c w K) h

/-! ### fathom/fathomlaw01.LitHolds: function 10 (named slots 7) cuts [(5, 32)] -/
def fathomlaw01_LitHolds.w (f_0 : Int) (f_1_p : Option Addr) (f_1_n : Nat) (f_1_c : Nat) (g_0 : Int) (g_1_p : Option Addr) (g_1_n : Nat) (g_1_c : Nat) (m__p : Option Addr) (m__n : Nat) (m__c : Nat) (w : World) (K : Value → World → Prop) : Prop :=
  ∀ (n1 : Nat) (w2 : World), New (.cells #[.int .i64 f_0, .slice f_1_p f_1_n f_1_c] 61) w n1 w2 → 
  ∀ (n3 : Nat) (w4 : World), New (.cells #[.int .i64 g_0, .slice g_1_p g_1_n g_1_c] 61) w2 n3 w4 → 
  ∃ x5 : Int, ∃ x6_p : Option Addr, ∃ x6_n : Nat, ∃ x6_c : Nat, CellsAt w4 (Addr.mk n1 0 none) 0 [.int .i64 x5, .slice x6_p x6_n x6_c] ∧ 
  Calls Try.prog 47 #[.agg #[.int .i64 x5, .slice x6_p x6_n x6_c]] w4 fun e w7 => ∃ r8 : Bool, e = .returned (.bool r8) ∧ 
  cnd (!r8)
  (Calls Try.prog 27 #[] w7 fun e w9 => ∃ r10 : Bool, e = .returned (.bool r10) ∧ 
  K (.bool r10) w9)
  (∃ x11 : Int, ∃ x12_p : Option Addr, ∃ x12_n : Nat, ∃ x12_c : Nat, CellsAt w7 (Addr.mk n3 0 none) 0 [.int .i64 x11, .slice x12_p x12_n x12_c] ∧ 
  Calls Try.prog 47 #[.agg #[.int .i64 x11, .slice x12_p x12_n x12_c]] w7 fun e w13 => ∃ r14 : Bool, e = .returned (.bool r14) ∧ 
  cnd (!r14)
  (Calls Try.prog 27 #[] w13 fun e w15 => ∃ r16 : Bool, e = .returned (.bool r16) ∧ 
    K (.bool r16) w15)
  (∃ J17 : World → Prop, (∃ x18 : Int, ∃ x19_p : Option Addr, ∃ x19_n : Nat, ∃ x19_c : Nat, CellsAt w13.drew (Addr.mk n1 0 none) 0 [.int .i64 x18, .slice x19_p x19_n x19_c] ∧ 
    ∃ x20 : Int, ∃ x21_p : Option Addr, ∃ x21_n : Nat, ∃ x21_c : Nat, CellsAt w13.drew (Addr.mk n3 0 none) 0 [.int .i64 x20, .slice x21_p x21_n x21_c] ∧ 
    (Calls Try.prog 48 #[.agg #[.int .i64 x18, .slice x19_p x19_n x19_c], .agg #[.int .i64 x20, .slice x21_p x21_n x21_c]] w13.drew fun e w22 => ∃ r23 : Bool, e = .returned (.bool r23) ∧ 
    ∃ x24 : Int, ∃ x25_p : Option Addr, ∃ x25_n : Nat, ∃ x25_c : Nat, CellsAt w22 (Addr.mk n1 0 none) 0 [.int .i64 x24, .slice x25_p x25_n x25_c] ∧ 
    ∃ x26 : Int, ∃ x27_p : Option Addr, ∃ x27_n : Nat, ∃ x27_c : Nat, CellsAt w22 (Addr.mk n3 0 none) 0 [.int .i64 x26, .slice x27_p x27_n x27_c] ∧ 
    Calls Try.prog 49 #[.agg #[.int .i64 x24, .slice x25_p x25_n x25_c], .agg #[.int .i64 x26, .slice x27_p x27_n x27_c]] w22 fun e w28 => ∃ r29 : Bool, e = .returned (.bool r29) ∧ 
    cnd (!(r23 == r29))
    (K (.bool false) w28)
    (∃ x30 : Int, ∃ x31_p : Option Addr, ∃ x31_n : Nat, ∃ x31_c : Nat, CellsAt w28 (Addr.mk n1 0 none) 0 [.int .i64 x30, .slice x31_p x31_n x31_c] ∧ 
    ∃ x32 : Int, ∃ x33_p : Option Addr, ∃ x33_n : Nat, ∃ x33_c : Nat, CellsAt w28 (Addr.mk n1 0 none) 0 [.int .i64 x32, .slice x33_p x33_n x33_c] ∧ 
    Calls Try.prog 48 #[.agg #[.int .i64 x30, .slice x31_p x31_n x31_c], .agg #[.int .i64 x32, .slice x33_p x33_n x33_c]] w28 fun e w34 => ∃ r35 : Bool, e = .returned (.bool r35) ∧ 
    cnd (!r35)
    (K (.bool false) w34)
    (J17 w34))) ∧
  (∃ x36 : Int, ∃ x37_p : Option Addr, ∃ x37_n : Nat, ∃ x37_c : Nat, CellsAt w13.drew (Addr.mk n1 0 none) 0 [.int .i64 x36, .slice x37_p x37_n x37_c] ∧ 
    (Calls Try.prog 48 #[.agg #[.int .i64 x18, .slice x19_p x19_n x19_c], .agg #[.int .i64 x20, .slice x21_p x21_n x21_c]] w13.drew fun e w38 => ∃ r39 : Bool, e = .returned (.bool r39) ∧ 
    ∃ x40 : Int, ∃ x41_p : Option Addr, ∃ x41_n : Nat, ∃ x41_c : Nat, CellsAt w38 (Addr.mk n3 0 none) 0 [.int .i64 x40, .slice x41_p x41_n x41_c] ∧ 
    Calls Try.prog 49 #[.agg #[.int .i64 x36, .slice x37_p x37_n x37_c], .agg #[.int .i64 x40, .slice x41_p x41_n x41_c]] w38 fun e w42 => ∃ r43 : Bool, e = .returned (.bool r43) ∧ 
    cnd (!(r39 == r43))
    (K (.bool false) w42)
    (∃ x44 : Int, ∃ x45_p : Option Addr, ∃ x45_n : Nat, ∃ x45_c : Nat, CellsAt w42 (Addr.mk n1 0 none) 0 [.int .i64 x44, .slice x45_p x45_n x45_c] ∧ 
    ∃ x46 : Int, ∃ x47_p : Option Addr, ∃ x47_n : Nat, ∃ x47_c : Nat, CellsAt w42 (Addr.mk n1 0 none) 0 [.int .i64 x46, .slice x47_p x47_n x47_c] ∧ 
    Calls Try.prog 48 #[.agg #[.int .i64 x44, .slice x45_p x45_n x45_c], .agg #[.int .i64 x46, .slice x47_p x47_n x47_c]] w42 fun e w48 => ∃ r49 : Bool, e = .returned (.bool r49) ∧ 
    cnd (!r49)
    (K (.bool false) w48)
    (J17 w48))) ∧
  (∃ x50 : Int, ∃ x51_p : Option Addr, ∃ x51_n : Nat, ∃ x51_c : Nat, CellsAt w13.drew (Addr.mk n3 0 none) 0 [.int .i64 x50, .slice x51_p x51_n x51_c] ∧ 
    Calls Try.prog 48 #[.agg #[.int .i64 x18, .slice x19_p x19_n x19_c], .agg #[.int .i64 x20, .slice x21_p x21_n x21_c]] w13.drew fun e w52 => ∃ r53 : Bool, e = .returned (.bool r53) ∧ 
    Calls Try.prog 49 #[.agg #[.int .i64 x36, .slice x37_p x37_n x37_c], .agg #[.int .i64 x50, .slice x51_p x51_n x51_c]] w52 fun e w54 => ∃ r55 : Bool, e = .returned (.bool r55) ∧ 
    cnd (!(r53 == r55))
    (K (.bool false) w54)
    (∃ x56 : Int, ∃ x57_p : Option Addr, ∃ x57_n : Nat, ∃ x57_c : Nat, CellsAt w54 (Addr.mk n1 0 none) 0 [.int .i64 x56, .slice x57_p x57_n x57_c] ∧ 
    ∃ x58 : Int, ∃ x59_p : Option Addr, ∃ x59_n : Nat, ∃ x59_c : Nat, CellsAt w54 (Addr.mk n1 0 none) 0 [.int .i64 x58, .slice x59_p x59_n x59_c] ∧ 
    Calls Try.prog 48 #[.agg #[.int .i64 x56, .slice x57_p x57_n x57_c], .agg #[.int .i64 x58, .slice x59_p x59_n x59_c]] w54 fun e w60 => ∃ r61 : Bool, e = .returned (.bool r61) ∧ 
    cnd (!r61)
    (K (.bool false) w60)
    (J17 w60)))) ∧
  (∃ x62 : Int, ∃ x63_p : Option Addr, ∃ x63_n : Nat, ∃ x63_c : Nat, CellsAt w13.drew (Addr.mk n3 0 none) 0 [.int .i64 x62, .slice x63_p x63_n x63_c] ∧ 
    (Calls Try.prog 48 #[.agg #[.int .i64 x18, .slice x19_p x19_n x19_c], .agg #[.int .i64 x20, .slice x21_p x21_n x21_c]] w13.drew fun e w64 => ∃ r65 : Bool, e = .returned (.bool r65) ∧ 
    ∃ x66 : Int, ∃ x67_p : Option Addr, ∃ x67_n : Nat, ∃ x67_c : Nat, CellsAt w64 (Addr.mk n1 0 none) 0 [.int .i64 x66, .slice x67_p x67_n x67_c] ∧ 
    Calls Try.prog 49 #[.agg #[.int .i64 x66, .slice x67_p x67_n x67_c], .agg #[.int .i64 x62, .slice x63_p x63_n x63_c]] w64 fun e w68 => ∃ r69 : Bool, e = .returned (.bool r69) ∧ 
    cnd (!(r65 == r69))
    (K (.bool false) w68)
    (∃ x70 : Int, ∃ x71_p : Option Addr, ∃ x71_n : Nat, ∃ x71_c : Nat, CellsAt w68 (Addr.mk n1 0 none) 0 [.int .i64 x70, .slice x71_p x71_n x71_c] ∧ 
    ∃ x72 : Int, ∃ x73_p : Option Addr, ∃ x73_n : Nat, ∃ x73_c : Nat, CellsAt w68 (Addr.mk n1 0 none) 0 [.int .i64 x72, .slice x73_p x73_n x73_c] ∧ 
    Calls Try.prog 48 #[.agg #[.int .i64 x70, .slice x71_p x71_n x71_c], .agg #[.int .i64 x72, .slice x73_p x73_n x73_c]] w68 fun e w74 => ∃ r75 : Bool, e = .returned (.bool r75) ∧ 
    cnd (!r75)
    (K (.bool false) w74)
    (J17 w74))) ∧
  (∃ x76 : Int, ∃ x77_p : Option Addr, ∃ x77_n : Nat, ∃ x77_c : Nat, CellsAt w13.drew (Addr.mk n1 0 none) 0 [.int .i64 x76, .slice x77_p x77_n x77_c] ∧ 
    Calls Try.prog 48 #[.agg #[.int .i64 x18, .slice x19_p x19_n x19_c], .agg #[.int .i64 x20, .slice x21_p x21_n x21_c]] w13.drew fun e w78 => ∃ r79 : Bool, e = .returned (.bool r79) ∧ 
    Calls Try.prog 49 #[.agg #[.int .i64 x76, .slice x77_p x77_n x77_c], .agg #[.int .i64 x62, .slice x63_p x63_n x63_c]] w78 fun e w80 => ∃ r81 : Bool, e = .returned (.bool r81) ∧ 
    cnd (!(r79 == r81))
    (K (.bool false) w80)
    (∃ x82 : Int, ∃ x83_p : Option Addr, ∃ x83_n : Nat, ∃ x83_c : Nat, CellsAt w80 (Addr.mk n1 0 none) 0 [.int .i64 x82, .slice x83_p x83_n x83_c] ∧ 
    ∃ x84 : Int, ∃ x85_p : Option Addr, ∃ x85_n : Nat, ∃ x85_c : Nat, CellsAt w80 (Addr.mk n1 0 none) 0 [.int .i64 x84, .slice x85_p x85_n x85_c] ∧ 
    Calls Try.prog 48 #[.agg #[.int .i64 x82, .slice x83_p x83_n x83_c], .agg #[.int .i64 x84, .slice x85_p x85_n x85_c]] w80 fun e w86 => ∃ r87 : Bool, e = .returned (.bool r87) ∧ 
    cnd (!r87)
    (K (.bool false) w86)
    (J17 w86))))) ∧
    ∀ (w88 : World) (_ : Fr), J17 w88 → 
    ∃ x89 : Int, ∃ x90_p : Option Addr, ∃ x90_n : Nat, ∃ x90_c : Nat, CellsAt w88 (Addr.mk n1 0 none) 0 [.int .i64 x89, .slice x90_p x90_n x90_c] ∧ 
    Calls Try.prog 50 #[.agg #[.int .i64 x89, .slice x90_p x90_n x90_c]] w88 fun e w91 => ∃ r92 : Bool, e = .returned (.bool r92) ∧ 
    cnd (!r92)
    (∃ x93 : Int, ∃ x94_p : Option Addr, ∃ x94_n : Nat, ∃ x94_c : Nat, CellsAt w91 (Addr.mk n1 0 none) 0 [.int .i64 x93, .slice x94_p x94_n x94_c] ∧ 
      Calls Try.prog 51 #[.agg #[.int .i64 x93, .slice x94_p x94_n x94_c]] w91 fun e w95 => ∃ r96 : Int, e = .returned (.int .i64 r96) ∧ 
      cnd (r96 == (1 : Int))
      (∃ x97 : Int, ∃ x98_p : Option Addr, ∃ x98_n : Nat, ∃ x98_c : Nat, CellsAt w95 (Addr.mk n1 0 none) 0 [.int .i64 x97, .slice x98_p x98_n x98_c] ∧ 
      Calls Try.prog 52 #[.agg #[.int .i64 x97, .slice x98_p x98_n x98_c], .slice m__p m__n m__c] w95 fun e w99 => ∃ r100 : Bool, e = .returned (.bool r100) ∧ 
      cnd (!r100)
      (Calls Try.prog 27 #[] w99 fun e w101 => ∃ r102 : Bool, e = .returned (.bool r102) ∧ 
      K (.bool r102) w101)
      (K (.bool false) w99))
      (K (.bool false) w95))
    (∃ x103 : Int, ∃ x104_p : Option Addr, ∃ x104_n : Nat, ∃ x104_c : Nat, CellsAt w91.drew (Addr.mk n1 0 none) 0 [.int .i64 x103, .slice x104_p x104_n x104_c] ∧ 
      Calls Try.prog 51 #[.agg #[.int .i64 x103, .slice x104_p x104_n x104_c]] w91.drew fun e w105 => ∃ r106 : Int, e = .returned (.int .i64 r106) ∧ 
      cnd (r106 == (0 : Int))
      (∃ x107 : Int, ∃ x108_p : Option Addr, ∃ x108_n : Nat, ∃ x108_c : Nat, CellsAt w105 (Addr.mk n1 0 none) 0 [.int .i64 x107, .slice x108_p x108_n x108_c] ∧ 
      (Calls Try.prog 52 #[.agg #[.int .i64 x107, .slice x108_p x108_n x108_c], .slice m__p m__n m__c] w105 fun e w109 => ∃ r110 : Bool, e = .returned (.bool r110) ∧ 
      ∃ x111 : Int, ∃ x112_p : Option Addr, ∃ x112_n : Nat, ∃ x112_c : Nat, CellsAt w109 (Addr.mk n1 0 none) 0 [.int .i64 x111, .slice x112_p x112_n x112_c] ∧ 
      Calls Try.prog 53 #[.agg #[.int .i64 x111, .slice x112_p x112_n x112_c], .slice m__p m__n m__c] w109 fun e w113 => ∃ r114 : Bool, e = .returned (.bool r114) ∧ 
      cnd (r110 == r114)
      (Calls Try.prog 27 #[] w113 fun e w115 => ∃ r116 : Bool, e = .returned (.bool r116) ∧ 
      K (.bool r116) w115)
      (K (.bool false) w113)) ∧
    (∃ x117 : Int, ∃ x118_p : Option Addr, ∃ x118_n : Nat, ∃ x118_c : Nat, CellsAt w105 (Addr.mk n1 0 none) 0 [.int .i64 x117, .slice x118_p x118_n x118_c] ∧ 
      Calls Try.prog 52 #[.agg #[.int .i64 x107, .slice x108_p x108_n x108_c], .slice m__p m__n m__c] w105 fun e w119 => ∃ r120 : Bool, e = .returned (.bool r120) ∧ 
      Calls Try.prog 53 #[.agg #[.int .i64 x117, .slice x118_p x118_n x118_c], .slice m__p m__n m__c] w119 fun e w121 => ∃ r122 : Bool, e = .returned (.bool r122) ∧ 
      cnd (r120 == r122)
      (Calls Try.prog 27 #[] w121 fun e w123 => ∃ r124 : Bool, e = .returned (.bool r124) ∧ 
      K (.bool r124) w123)
      (K (.bool false) w121)))
      ((K (.bool false) w105) ∧
    (K (.bool false) w105)))))
theorem fathomlaw01_LitHolds.eq (f_0 : Int) (f_1_p : Option Addr) (f_1_n : Nat) (f_1_c : Nat) (g_0 : Int) (g_1_p : Option Addr) (g_1_n : Nat) (g_1_c : Nat) (m__p : Option Addr) (m__n : Nat) (m__c : Nat) (w : World) (K : Value → World → Prop) : wpF Try.prog Try.f10 (.two .leaf (.two .leaf (.cut [] .leaf .leaf))) [.agg #[.int .i64 f_0, .slice f_1_p f_1_n f_1_c], .agg #[.int .i64 g_0, .slice g_1_p g_1_n g_1_c], .slice m__p m__n m__c] w K = fathomlaw01_LitHolds.w f_0 f_1_p f_1_n f_1_c g_0 g_1_p g_1_n g_1_c m__p m__n m__c w K := by kernel_rfl
theorem fathomlaw01_LitHolds.ok : fnOk Try.prog Try.f10 3 = true := by kernel_rfl
theorem fathomlaw01_LitHolds.calls {f_0 : Int} {f_1_p : Option Addr} {f_1_n : Nat} {f_1_c : Nat} {g_0 : Int} {g_1_p : Option Addr} {g_1_n : Nat} {g_1_c : Nat} {m__p : Option Addr} {m__n : Nat} {m__c : Nat} {w : World} {R : Ending → World → Prop} (h : fathomlaw01_LitHolds.w f_0 f_1_p f_1_n f_1_c g_0 g_1_p g_1_n g_1_c m__p m__n m__c w fun v w' => R (.returned v) w') : Calls Try.prog 10 #[.agg #[.int .i64 f_0, .slice f_1_p f_1_n f_1_c], .agg #[.int .i64 g_0, .slice g_1_p g_1_n g_1_c], .slice m__p m__n m__c] w R :=
  calls_of mixed Try.func10 fathomlaw01_LitHolds.ok rfl (fun K => fathomlaw01_LitHolds.eq f_0 f_1_p f_1_n f_1_c g_0 g_1_p g_1_n g_1_c m__p m__n m__c w K) h

/-! ### fathom/fathomlaw12.LearnLearns: function 12 (named slots 8) -/
def fathomlaw12_LearnLearns.w (t__p : Option Addr) (t__n : Nat) (t__c : Nat) (c__p : Option Addr) (c__n : Nat) (c__c : Nat) (w : World) (K : Value → World → Prop) : Prop :=
  Calls Try.prog 42 #[.slice t__p t__n t__c, .slice c__p c__n c__c] w fun e w1 => ∃ r2 : Bool, e = .returned (.bool r2) ∧ 
  cnd (!r2)
  (Calls Try.prog 43 #[] w1 fun e w3 => ∃ r4 : Bool, e = .returned (.bool r4) ∧ 
  K (.bool r4) w3)
  (Calls Try.prog 45 #[.slice t__p t__n t__c, .slice c__p c__n c__c] w1 fun e w5 => ∃ r6 : Bool, e = .returned (.bool r6) ∧ 
  cnd (!r6)
  (Calls Try.prog 43 #[] w5 fun e w7 => ∃ r8 : Bool, e = .returned (.bool r8) ∧ 
    K (.bool r8) w7)
  (Calls Try.prog 46 #[.slice t__p t__n t__c, .slice c__p c__n c__c] w5 fun e w9 => ∃ r10_p : Option Addr, ∃ r10_n : Nat, ∃ r10_c : Nat, ∃ r11 : Int, e = .returned (.tuple #[.slice r10_p r10_n r10_c, .int .i64 r11]) ∧ 
    Calls Try.prog 57 #[.slice t__p t__n t__c, .slice c__p c__n c__c] w9 fun e w12 => ∃ r13_p : Option Addr, ∃ r13_n : Nat, ∃ r13_c : Nat, e = .returned (.slice r13_p r13_n r13_c) ∧ 
    cnd (r11 == (0 : Int))
    (Calls Try.prog 31 #[.slice r10_p r10_n r10_c, .slice r13_p r13_n r13_c] w12 fun e w14 => ∃ r15 : Bool, e = .returned (.bool r15) ∧ 
    cnd r15
    (Calls Try.prog 58 #[.slice t__p t__n t__c, .slice r10_p r10_n r10_c] w14 fun e w16 => ∃ r17_p : Option Addr, ∃ r17_n : Nat, ∃ r17_c : Nat, e = .returned (.slice r17_p r17_n r17_c) ∧ 
    Calls Try.prog 59 #[.slice t__p t__n t__c, .slice r13_p r13_n r13_c] w16 fun e w18 => ∃ r19_p : Option Addr, ∃ r19_n : Nat, ∃ r19_c : Nat, e = .returned (.slice r19_p r19_n r19_c) ∧ 
    Calls Try.prog 31 #[.slice r17_p r17_n r17_c, .slice r19_p r19_n r19_c] w18 fun e w20 => ∃ r21 : Bool, e = .returned (.bool r21) ∧ 
    cnd r21
    (Calls Try.prog 43 #[] w20 fun e w22 => ∃ r23 : Bool, e = .returned (.bool r23) ∧ 
    K (.bool r23) w22)
    (K (.bool false) w20))
    (K (.bool false) w14))
    (K (.bool false) w12)))
theorem fathomlaw12_LearnLearns.eq (t__p : Option Addr) (t__n : Nat) (t__c : Nat) (c__p : Option Addr) (c__n : Nat) (c__c : Nat) (w : World) (K : Value → World → Prop) : wpF Try.prog Try.f12 .leaf [.slice t__p t__n t__c, .slice c__p c__n c__c] w K = fathomlaw12_LearnLearns.w t__p t__n t__c c__p c__n c__c w K := by kernel_rfl
theorem fathomlaw12_LearnLearns.ok : fnOk Try.prog Try.f12 2 = true := by kernel_rfl
theorem fathomlaw12_LearnLearns.calls {t__p : Option Addr} {t__n : Nat} {t__c : Nat} {c__p : Option Addr} {c__n : Nat} {c__c : Nat} {w : World} {R : Ending → World → Prop} (h : fathomlaw12_LearnLearns.w t__p t__n t__c c__p c__n c__c w fun v w' => R (.returned v) w') : Calls Try.prog 12 #[.slice t__p t__n t__c, .slice c__p c__n c__c] w R :=
  calls_of mixed Try.func12 fathomlaw12_LearnLearns.ok rfl (fun K => fathomlaw12_LearnLearns.eq t__p t__n t__c c__p c__n c__c w K) h

/-! ### fathom/fathomlaw12.LearnTeaches: function 13 (named slots 15) cuts [(2, 82)] -/
def fathomlaw12_LearnTeaches.w (t__p : Option Addr) (t__n : Nat) (t__c : Nat) (c__p : Option Addr) (c__n : Nat) (c__c : Nat) (m__p : Option Addr) (m__n : Nat) (m__c : Nat) (w : World) (K : Value → World → Prop) : Prop :=
  Calls Try.prog 42 #[.slice t__p t__n t__c, .slice c__p c__n c__c] w fun e w1 => ∃ r2 : Bool, e = .returned (.bool r2) ∧ 
  cnd (!r2)
  (Calls Try.prog 43 #[] w1 fun e w3 => ∃ r4 : Bool, e = .returned (.bool r4) ∧ 
  K (.bool r4) w3)
  (Calls Try.prog 45 #[.slice t__p t__n t__c, .slice c__p c__n c__c] w1 fun e w5 => ∃ r6 : Bool, e = .returned (.bool r6) ∧ 
  cnd (!r6)
  (Calls Try.prog 43 #[] w5 fun e w7 => ∃ r8 : Bool, e = .returned (.bool r8) ∧ 
    K (.bool r8) w7)
  (Calls Try.prog 46 #[.slice t__p t__n t__c, .slice c__p c__n c__c] w5 fun e w9 => ∃ r10_p : Option Addr, ∃ r10_n : Nat, ∃ r10_c : Nat, ∃ r11 : Int, e = .returned (.tuple #[.slice r10_p r10_n r10_c, .int .i64 r11]) ∧ 
    Calls Try.prog 58 #[.slice t__p t__n t__c, .slice r10_p r10_n r10_c] w9 fun e w12 => ∃ r13_p : Option Addr, ∃ r13_n : Nat, ∃ r13_c : Nat, e = .returned (.slice r13_p r13_n r13_c) ∧ 
    cnd (r11 != (0 : Int))
    (K (.bool false) w12)
    (Calls Try.prog 60 #[.slice t__p t__n t__c, .slice r10_p r10_n r10_c] w12 fun e w14 => ∃ r15 : Bool, e = .returned (.bool r15) ∧ 
    cnd (!r15)
    (K (.bool false) w14)
    (Calls Try.prog 60 #[.slice t__p t__n t__c, .slice r13_p r13_n r13_c] w14 fun e w16 => ∃ r17 : Bool, e = .returned (.bool r17) ∧ 
    cnd (!r17)
    (K (.bool false) w16)
    (cnd (decide ((r13_n : Int) > (r10_n : Int)))
    (K (.bool false) w16)
    (∃ I18 : Int → Int → World → Nat → Prop, (∃ k19, I18 0 0 w16 k19) ∧
      ∀ (level_21 : Int) (i_22 : Int) (w23 : World) (k19 : Nat) (_ : Fr), I18 level_21 i_22 w23 k19 →
      cnd (decide (i_22 < (c__n : Int)))
        (ixK c__p c__n i_22 1 fun a24 =>
          ∃ x25 : Int, w23.cell? a24 = some (.int .i64 x25) ∧ 
          Calls Try.prog 61 #[.slice t__p t__n t__c, .int .i64 x25] w23 fun e w26 => ∃ r27 : Int, e = .returned (.int .i64 r27) ∧ 
          cnd (decide (r27 > level_21))
          (ixK c__p c__n i_22 1 fun a28 =>
            ∃ x29 : Int, w26.cell? a28 = some (.int .i64 x29) ∧ 
            Calls Try.prog 61 #[.slice t__p t__n t__c, .int .i64 x29] w26 fun e w30 => ∃ r31 : Int, e = .returned (.int .i64 r31) ∧ 
            ∃ k20, k20 < k19 ∧ I18 r31 (IntKind.i64.wrap (i_22 + (1 : Int))) w30 k20)
          (∃ k20, k20 < k19 ∧ I18 level_21 (IntKind.i64.wrap (i_22 + (1 : Int))) w26 k20))
        (∃ J32 : World → Prop, (cnd (level_21 == (0 : Int))
          (cnd (decide ((r10_n : Int) > (0 : Int)))
          (K (.bool false) w23)
          (J32 w23))
          (J32 w23)) ∧
          ∀ (w33 : World) (_ : Fr), J32 w33 → 
          ∃ I34 : Int → World → Nat → Prop, (∃ k35, I34 0 w33 k35) ∧
          ∀ (i_37 : Int) (w38 : World) (k35 : Nat) (_ : Fr), I34 i_37 w38 k35 →
          cnd (decide (i_37 < (r10_n : Int)))
            (ixK r10_p r10_n i_37 1 fun a39 =>
              ∃ x40 : Int, w38.cell? a39 = some (.int .i64 x40) ∧ 
              Calls Try.prog 61 #[.slice t__p t__n t__c, .int .i64 x40] w38 fun e w41 => ∃ r42 : Int, e = .returned (.int .i64 r42) ∧ 
              cnd (!((r42 == level_21) == (i_37 == (0 : Int))))
              (K (.bool false) w41)
              (∃ k36, k36 < k35 ∧ I34 (IntKind.i64.wrap (i_37 + (1 : Int))) w41 k36))
            (Calls Try.prog 38 #[.slice m__p m__n m__c, .slice c__p c__n c__c] w38 fun e w43 => ∃ r44 : Int, e = .returned (.int .i64 r44) ∧ 
              ∃ I45 : Bool → Int → World → Nat → Prop, (∃ k46, I45 (r44 == (1 : Int)) 0 w43 k46) ∧
              ∀ (holds_48 : Bool) (i_49 : Int) (w50 : World) (k46 : Nat) (_ : Fr), I45 holds_48 i_49 w50 k46 →
              cnd (decide (i_49 < (t__n : Int)))
                (cnd holds_48
                  (ixK t__p t__n i_49 3 fun a51 =>
                  ∃ x52 : Int, w50.cell? (a51.add 0) = some (.int .i64 x52) ∧ 
                  Calls Try.prog 36 #[.slice m__p m__n m__c, .int .i64 x52] w50 fun e w53 => ∃ r54 : Int, e = .returned (.int .i64 r54) ∧ 
                  cnd (r54 != (0 : Int))
                  (ixK t__p t__n i_49 3 fun a55 =>
                  ∃ x56_p : Option Addr, ∃ x56_n : Nat, ∃ x56_c : Nat, w53.cell? (a55.add 2) = some (.slice x56_p x56_n x56_c) ∧ 
                  cnd ((x56_n : Int) == (0 : Int))
                  (∃ k47, k47 < k46 ∧ I45 true (IntKind.i64.wrap (i_49 + (1 : Int))) w53 k47)
                  (ixK t__p t__n i_49 3 fun a57 =>
                  ∃ x58_p : Option Addr, ∃ x58_n : Nat, ∃ x58_c : Nat, w53.cell? (a57.add 2) = some (.slice x58_p x58_n x58_c) ∧ 
                  Calls Try.prog 38 #[.slice m__p m__n m__c, .slice x58_p x58_n x58_c] w53 fun e w59 => ∃ r60 : Int, e = .returned (.int .i64 r60) ∧ 
                  ∃ k47, k47 < k46 ∧ I45 (r60 == (1 : Int)) (IntKind.i64.wrap (i_49 + (1 : Int))) w59 k47))
                  (∃ k47, k47 < k46 ∧ I45 false (IntKind.i64.wrap (i_49 + (1 : Int))) w53 k47))
                  (∃ k47, k47 < k46 ∧ I45 false (IntKind.i64.wrap (i_49 + (1 : Int))) w50 k47))
                (cnd (!holds_48)
                  (Calls Try.prog 43 #[] w50 fun e w61 => ∃ r62 : Bool, e = .returned (.bool r62) ∧ 
                  K (.bool r62) w61)
                  (Calls Try.prog 38 #[.slice m__p m__n m__c, .slice r10_p r10_n r10_c] w50 fun e w63 => ∃ r64 : Int, e = .returned (.int .i64 r64) ∧ 
                  cnd (r64 == (1 : Int))
                  (Calls Try.prog 38 #[.slice m__p m__n m__c, .slice r13_p r13_n r13_c] w63 fun e w65 => ∃ r66 : Int, e = .returned (.int .i64 r66) ∧ 
                  cnd (r66 == (1 : Int))
                  (Calls Try.prog 43 #[] w65 fun e w67 => ∃ r68 : Bool, e = .returned (.bool r68) ∧ 
                  K (.bool r68) w67)
                  (K (.bool false) w65))
                  (K (.bool false) w63)))))))))))
theorem fathomlaw12_LearnTeaches.eq (t__p : Option Addr) (t__n : Nat) (t__c : Nat) (c__p : Option Addr) (c__n : Nat) (c__c : Nat) (m__p : Option Addr) (m__n : Nat) (m__c : Nat) (w : World) (K : Value → World → Prop) : wpF Try.prog Try.f13 (.two .leaf (.two .leaf (.two .leaf (.two .leaf (.two .leaf (.two .leaf (.two (.two .leaf (.one (.loop [(10, 3), (11, 3)] .leaf))) (.cut [] .leaf (.two (.two .leaf (.one (.loop [(12, 3)] .leaf))) (.two .leaf (.two (.two .leaf (.one (.loop [(13, 4), (14, 3)] .leaf))) .leaf))))))))))) [.slice t__p t__n t__c, .slice c__p c__n c__c, .slice m__p m__n m__c] w K = fathomlaw12_LearnTeaches.w t__p t__n t__c c__p c__n c__c m__p m__n m__c w K := by kernel_rfl
theorem fathomlaw12_LearnTeaches.ok : fnOk Try.prog Try.f13 3 = true := by kernel_rfl
theorem fathomlaw12_LearnTeaches.calls {t__p : Option Addr} {t__n : Nat} {t__c : Nat} {c__p : Option Addr} {c__n : Nat} {c__c : Nat} {m__p : Option Addr} {m__n : Nat} {m__c : Nat} {w : World} {R : Ending → World → Prop} (h : fathomlaw12_LearnTeaches.w t__p t__n t__c c__p c__n c__c m__p m__n m__c w fun v w' => R (.returned v) w') : Calls Try.prog 13 #[.slice t__p t__n t__c, .slice c__p c__n c__c, .slice m__p m__n m__c] w R :=
  calls_of mixed Try.func13 fathomlaw12_LearnTeaches.ok rfl (fun K => fathomlaw12_LearnTeaches.eq t__p t__n t__c c__p c__n c__c m__p m__n m__c w K) h

/-! ### fathom/fathomlaw12.LearnAsserts: function 14 (named slots 10) -/
def fathomlaw12_LearnAsserts.w (t__p : Option Addr) (t__n : Nat) (t__c : Nat) (c__p : Option Addr) (c__n : Nat) (c__c : Nat) (w : World) (K : Value → World → Prop) : Prop :=
  Calls Try.prog 42 #[.slice t__p t__n t__c, .slice c__p c__n c__c] w fun e w1 => ∃ r2 : Bool, e = .returned (.bool r2) ∧ 
  cnd (!r2)
  (Calls Try.prog 43 #[] w1 fun e w3 => ∃ r4 : Bool, e = .returned (.bool r4) ∧ 
  K (.bool r4) w3)
  (Calls Try.prog 45 #[.slice t__p t__n t__c, .slice c__p c__n c__c] w1 fun e w5 => ∃ r6 : Bool, e = .returned (.bool r6) ∧ 
  cnd (!r6)
  (Calls Try.prog 43 #[] w5 fun e w7 => ∃ r8 : Bool, e = .returned (.bool r8) ∧ 
    K (.bool r8) w7)
  (Calls Try.prog 46 #[.slice t__p t__n t__c, .slice c__p c__n c__c] w5 fun e w9 => ∃ r10_p : Option Addr, ∃ r10_n : Nat, ∃ r10_c : Nat, ∃ r11 : Int, e = .returned (.tuple #[.slice r10_p r10_n r10_c, .int .i64 r11]) ∧ 
    Calls Try.prog 58 #[.slice t__p t__n t__c, .slice r10_p r10_n r10_c] w9 fun e w12 => ∃ r13_p : Option Addr, ∃ r13_n : Nat, ∃ r13_c : Nat, e = .returned (.slice r13_p r13_n r13_c) ∧ 
    cnd ((r13_n : Int) == (0 : Int))
    (Calls Try.prog 62 #[.slice t__p t__n t__c, .slice r13_p r13_n r13_c] w12 fun e w14 => ∃ r15 : Int, e = .returned (.int .i64 r15) ∧ 
      cnd (r15 == (-1))
      (Calls Try.prog 43 #[] w14 fun e w16 => ∃ r17 : Bool, e = .returned (.bool r17) ∧ 
      K (.bool r17) w16)
      (K (.bool false) w14))
    (Calls Try.prog 62 #[.slice t__p t__n t__c, .slice r13_p r13_n r13_c] w12 fun e w18 => ∃ r19 : Int, e = .returned (.int .i64 r19) ∧ 
      cnd (decide (r19 < (0 : Int)))
      (K (.bool false) w18)
      (ixK r13_p r13_n 0 1 fun a20 =>
      ∃ x21 : Int, w18.cell? a20 = some (.int .i64 x21) ∧ 
      Calls Try.prog 61 #[.slice t__p t__n t__c, .int .i64 x21] w18 fun e w22 => ∃ r23 : Int, e = .returned (.int .i64 r23) ∧ 
      cnd (decide (r19 ≥ r23))
      (K (.bool false) w22)
      (∃ I24 : Int → World → Nat → Prop, (∃ k25, I24 0 w22 k25) ∧
        ∀ (i_27 : Int) (w28 : World) (k25 : Nat) (_ : Fr), I24 i_27 w28 k25 →
        cnd (decide (i_27 < (r13_n : Int)))
          (ixK r13_p r13_n i_27 1 fun a29 =>
            ∃ x30 : Int, w28.cell? a29 = some (.int .i64 x30) ∧ 
            Calls Try.prog 61 #[.slice t__p t__n t__c, .int .i64 x30] w28 fun e w31 => ∃ r32 : Int, e = .returned (.int .i64 r32) ∧ 
            cnd (!((decide (r32 ≤ r19)) == (decide (i_27 > (0 : Int)))))
            (K (.bool false) w31)
            (∃ k26, k26 < k25 ∧ I24 (IntKind.i64.wrap (i_27 + (1 : Int))) w31 k26))
          (Calls Try.prog 63 #[.slice t__p t__n t__c, .slice r13_p r13_n r13_c] w28 fun e w33 => ∃ r34 : Int, e = .returned (.int .i64 r34) ∧ 
            cnd (decide (r34 ≤ (r13_n : Int)))
            (Calls Try.prog 43 #[] w33 fun e w35 => ∃ r36 : Bool, e = .returned (.bool r36) ∧ 
            K (.bool r36) w35)
            (K (.bool false) w33)))))))
theorem fathomlaw12_LearnAsserts.eq (t__p : Option Addr) (t__n : Nat) (t__c : Nat) (c__p : Option Addr) (c__n : Nat) (c__c : Nat) (w : World) (K : Value → World → Prop) : wpF Try.prog Try.f14 (.two .leaf (.two .leaf (.two .leaf (.two .leaf (.two .leaf (.two .leaf (.two .leaf (.two (.two .leaf (.one (.loop [(9, 3)] .leaf))) .leaf)))))))) [.slice t__p t__n t__c, .slice c__p c__n c__c] w K = fathomlaw12_LearnAsserts.w t__p t__n t__c c__p c__n c__c w K := by kernel_rfl
theorem fathomlaw12_LearnAsserts.ok : fnOk Try.prog Try.f14 2 = true := by kernel_rfl
theorem fathomlaw12_LearnAsserts.calls {t__p : Option Addr} {t__n : Nat} {t__c : Nat} {c__p : Option Addr} {c__n : Nat} {c__c : Nat} {w : World} {R : Ending → World → Prop} (h : fathomlaw12_LearnAsserts.w t__p t__n t__c c__p c__n c__c w fun v w' => R (.returned v) w') : Calls Try.prog 14 #[.slice t__p t__n t__c, .slice c__p c__n c__c] w R :=
  calls_of mixed Try.func14 fathomlaw12_LearnAsserts.ok rfl (fun K => fathomlaw12_LearnAsserts.eq t__p t__n t__c c__p c__n c__c w K) h

/-! ### fathom/fathomlaw01.awake: function 27 (named slots 5) -/
def fathomlaw01_awake.w (w : World) (K : Value → World → Prop) : Prop :=
  ∀ (n1 : Nat) (w2 : World), New (.cells #[.int .i64 1, .int .i64 2] 3) w n1 w2 → 
  ∀ (n3 : Nat) (w4 : World), New (.cells #[.int .i64 (-1), .int .i64 3] 3) w2 n3 w4 → 
  Calls Try.prog 39 #[.slice (some (Addr.mk n1 0 none)) 2 2, .slice (some (Addr.mk n3 0 none)) 2 2, .int .i64 1] w4 fun e w5 => ∃ r6_p : Option Addr, ∃ r6_n : Nat, ∃ r6_c : Nat, ∃ r7 : Int, e = .returned (.tuple #[.slice r6_p r6_n r6_c, .int .i64 r7]) ∧ 
  ∀ (n8 : Nat) (w9 : World), New (.cells #[.int .i64 (-2), .int .i64 1, .int .i64 (-2)] 3) w5 n8 w9 → 
  Calls Try.prog 28 #[.slice (some (Addr.mk n8 0 none)) 3 3] w9 fun e w10 => ∃ r11_p : Option Addr, ∃ r11_n : Nat, ∃ r11_c : Nat, ∃ r12 : Bool, e = .returned (.tuple #[.slice r11_p r11_n r11_c, .bool r12]) ∧ 
  cnd (r7 == (0 : Int))
  (∀ (n13 : Nat) (w14 : World), New (.cells #[.int .i64 2, .int .i64 3] 3) w10 n13 w14 → 
  Calls Try.prog 31 #[.slice r6_p r6_n r6_c, .slice (some (Addr.mk n13 0 none)) 2 2] w14 fun e w15 => ∃ r16 : Bool, e = .returned (.bool r16) ∧ 
  cnd r16
  (∀ (n17 : Nat) (w18 : World), New (.cells #[.int .i64 1, .int .i64 (-2)] 3) w15 n17 w18 → 
  Calls Try.prog 31 #[.slice r11_p r11_n r11_c, .slice (some (Addr.mk n17 0 none)) 2 2] w18 fun e w19 => ∃ r20 : Bool, e = .returned (.bool r20) ∧ 
  cnd r20
  (K (.bool (!r12)) w19)
  (K (.bool false) w19))
  (K (.bool false) w15))
  (K (.bool false) w10)
theorem fathomlaw01_awake.eq (w : World) (K : Value → World → Prop) : wpF Try.prog Try.f27 .leaf [] w K = fathomlaw01_awake.w  w K := by kernel_rfl
theorem fathomlaw01_awake.ok : fnOk Try.prog Try.f27 0 = true := by kernel_rfl
theorem fathomlaw01_awake.calls {w : World} {R : Ending → World → Prop} (h : fathomlaw01_awake.w  w fun v w' => R (.returned v) w') : Calls Try.prog 27 #[] w R :=
  calls_of mixed Try.func27 fathomlaw01_awake.ok rfl (fun K => fathomlaw01_awake.eq  w K) h

/-! ### fathom/lit.Norm: function 28 (named slots 6) -/
def lit_Norm.w (c__p : Option Addr) (c__n : Nat) (c__c : Nat) (w : World) (K : Value → World → Prop) : Prop :=
  Calls Try.prog 30 #[.slice c__p c__n c__c] w fun e w1 => ∃ r2 : Int, e = .returned (.int .i64 r2) ∧ 
  cnd (r2 != (0 : Int))
  (K (.tuple #[.slice none 0 0, .bool false]) w1)
  (Calls Try.prog 67 #[.slice c__p c__n c__c] w1 fun e w3 => ∃ r4_p : Option Addr, ∃ r4_n : Nat, ∃ r4_c : Nat, e = .returned (.slice r4_p r4_n r4_c) ∧ 
    Calls Try.prog 65 #[.slice r4_p r4_n r4_c, .func (.func 68) #[] #[]] w3 fun e w5 => e = .returned (.tuple #[]) ∧ 
    Calls Try.prog 69 #[.slice r4_p r4_n r4_c] w5 fun e w6 => ∃ r7_p : Option Addr, ∃ r7_n : Nat, ∃ r7_c : Nat, e = .returned (.slice r7_p r7_n r7_c) ∧ 
    ∃ I8 : Int → World → Nat → Prop, (∃ k9, I8 1 w6 k9) ∧
    ∀ (i_11 : Int) (w12 : World) (k9 : Nat) (_ : Fr), I8 i_11 w12 k9 →
    cnd (decide (i_11 < (r7_n : Int)))
      (ixK r7_p r7_n i_11 1 fun a13 =>
        ∃ x14 : Int, w12.drew.cell? a13 = some (.int .i64 x14) ∧ 
        ixK r7_p r7_n (IntKind.i64.wrap (i_11 - (1 : Int))) 1 fun a15 =>
        ∃ x16 : Int, w12.drew.cell? a15 = some (.int .i64 x16) ∧ 
        cnd (x14 == (IntKind.i64.wrap (0 - x16)))
        (K (.tuple #[.slice r7_p r7_n r7_c, .bool true]) w12.drew)
        (∃ k10, k10 < k9 ∧ I8 (IntKind.i64.wrap (i_11 + (1 : Int))) w12.drew k10))
      (K (.tuple #[.slice r7_p r7_n r7_c, .bool false]) w12))
theorem lit_Norm.eq (c__p : Option Addr) (c__n : Nat) (c__c : Nat) (w : World) (K : Value → World → Prop) : wpF Try.prog Try.f28 (.two .leaf (.two .leaf (.two .leaf (.two .leaf (.two .leaf (.two (.two .leaf (.one (.loop [(5, 3)] .leaf))) .leaf)))))) [.slice c__p c__n c__c] w K = lit_Norm.w c__p c__n c__c w K := by kernel_rfl
theorem lit_Norm.ok : fnOk Try.prog Try.f28 1 = true := by kernel_rfl
theorem lit_Norm.calls {c__p : Option Addr} {c__n : Nat} {c__c : Nat} {w : World} {R : Ending → World → Prop} (h : lit_Norm.w c__p c__n c__c w fun v w' => R (.returned v) w') : Calls Try.prog 28 #[.slice c__p c__n c__c] w R :=
  calls_of mixed Try.func28 lit_Norm.ok rfl (fun K => lit_Norm.eq c__p c__n c__c w K) h

/-! ### fathom/fathomref01.May: function 29 (named slots 4) -/
def fathomref01_May.w (c__p : Option Addr) (c__n : Nat) (c__c : Nat) (w : World) (K : Value → World → Prop) : Prop :=
  ∃ I1 : Int → World → Nat → Prop, (∃ k2, I1 0 w k2) ∧
  ∀ (i_4 : Int) (w5 : World) (k2 : Nat) (_ : Fr), I1 i_4 w5 k2 →
  cnd (decide (i_4 < (c__n : Int)))
    (ixK c__p c__n i_4 1 fun a6 =>
      ∃ x7 : Int, w5.cell? a6 = some (.int .i64 x7) ∧ 
      Calls Try.prog 55 #[.int .i64 x7] w5 fun e w8 => ∃ r9 : Bool, e = .returned (.bool r9) ∧ 
      cnd (!r9)
      (K (.bool false) w8)
      (∃ k3, k3 < k2 ∧ I1 (IntKind.i64.wrap (i_4 + (1 : Int))) w8 k3))
    (K (.bool (decide ((c__n : Int) ≤ (4096 : Int)))) w5)
theorem fathomref01_May.eq (c__p : Option Addr) (c__n : Nat) (c__c : Nat) (w : World) (K : Value → World → Prop) : wpF Try.prog Try.f29 (.two .leaf (.two (.two .leaf (.one (.loop [(3, 3)] .leaf))) .leaf)) [.slice c__p c__n c__c] w K = fathomref01_May.w c__p c__n c__c w K := by kernel_rfl
theorem fathomref01_May.ok : fnOk Try.prog Try.f29 1 = true := by kernel_rfl
theorem fathomref01_May.calls {c__p : Option Addr} {c__n : Nat} {c__c : Nat} {w : World} {R : Ending → World → Prop} (h : fathomref01_May.w c__p c__n c__c w fun v w' => R (.returned v) w') : Calls Try.prog 29 #[.slice c__p c__n c__c] w R :=
  calls_of mixed Try.func29 fathomref01_May.ok rfl (fun K => fathomref01_May.eq c__p c__n c__c w K) h

/-! ### fathom/lit.Check: function 30 (named slots 3) -/
def lit_Check.w (c__p : Option Addr) (c__n : Nat) (c__c : Nat) (w : World) (K : Value → World → Prop) : Prop :=
  cnd (decide ((c__n : Int) > (4096 : Int)))
  (K (.int .i64 1) w)
  (Calls Try.prog 70 #[.slice c__p c__n c__c, .func (.func 71) #[] #[]] w fun e w1 => ∃ r2 : Bool, e = .returned (.bool r2) ∧ 
  cnd r2
  (K (.int .i64 1) w1)
  (K (.int .i64 0) w1))
theorem lit_Check.eq (c__p : Option Addr) (c__n : Nat) (c__c : Nat) (w : World) (K : Value → World → Prop) : wpF Try.prog Try.f30 .leaf [.slice c__p c__n c__c] w K = lit_Check.w c__p c__n c__c w K := by kernel_rfl
theorem lit_Check.ok : fnOk Try.prog Try.f30 1 = true := by kernel_rfl
theorem lit_Check.calls {c__p : Option Addr} {c__n : Nat} {c__c : Nat} {w : World} {R : Ending → World → Prop} (h : lit_Check.w c__p c__n c__c w fun v w' => R (.returned v) w') : Calls Try.prog 30 #[.slice c__p c__n c__c] w R :=
  calls_of mixed Try.func30 lit_Check.ok rfl (fun K => lit_Check.eq c__p c__n c__c w K) h

/-! ### fathom/fathomref01.Ints: function 31 (named slots 6) -/
def fathomref01_Ints.w (a__p : Option Addr) (a__n : Nat) (a__c : Nat) (b__p : Option Addr) (b__n : Nat) (b__c : Nat) (w : World) (K : Value → World → Prop) : Prop :=
  cnd ((a__n : Int) != (b__n : Int))
  (K (.bool false) w)
  (∃ I1 : Int → World → Nat → Prop, (∃ k2, I1 0 w k2) ∧
    ∀ (i_4 : Int) (w5 : World) (k2 : Nat) (_ : Fr), I1 i_4 w5 k2 →
    cnd (decide (i_4 < (a__n : Int)))
      (ixK a__p a__n i_4 1 fun a6 =>
        ∃ x7 : Int, w5.drew.cell? a6 = some (.int .i64 x7) ∧ 
        ixK b__p b__n i_4 1 fun a8 =>
        ∃ x9 : Int, w5.drew.cell? a8 = some (.int .i64 x9) ∧ 
        cnd (x7 != x9)
        (K (.bool false) w5.drew)
        (∃ k3, k3 < k2 ∧ I1 (IntKind.i64.wrap (i_4 + (1 : Int))) w5.drew k3))
      (K (.bool true) w5))
theorem fathomref01_Ints.eq (a__p : Option Addr) (a__n : Nat) (a__c : Nat) (b__p : Option Addr) (b__n : Nat) (b__c : Nat) (w : World) (K : Value → World → Prop) : wpF Try.prog Try.f31 (.two .leaf (.two .leaf (.two (.two .leaf (.one (.loop [(5, 3)] .leaf))) .leaf))) [.slice a__p a__n a__c, .slice b__p b__n b__c] w K = fathomref01_Ints.w a__p a__n a__c b__p b__n b__c w K := by kernel_rfl
theorem fathomref01_Ints.ok : fnOk Try.prog Try.f31 2 = true := by kernel_rfl
theorem fathomref01_Ints.calls {a__p : Option Addr} {a__n : Nat} {a__c : Nat} {b__p : Option Addr} {b__n : Nat} {b__c : Nat} {w : World} {R : Ending → World → Prop} (h : fathomref01_Ints.w a__p a__n a__c b__p b__n b__c w fun v w' => R (.returned v) w') : Calls Try.prog 31 #[.slice a__p a__n a__c, .slice b__p b__n b__c] w R :=
  calls_of mixed Try.func31 fathomref01_Ints.ok rfl (fun K => fathomref01_Ints.eq a__p a__n a__c b__p b__n b__c w K) h

/-! ### fathom/fathomref01.Order: function 32 (named slots 7) -/
def fathomref01_Order.w (c__p : Option Addr) (c__n : Nat) (c__c : Nat) (w : World) (K : Value → World → Prop) : Prop :=
  ∀ (n1 : Nat) (w2 : World), New (.cells #[] 3) w n1 w2 → 
  ∃ I3 : Option Addr → Nat → Nat → Int → World → Nat → Prop, (∃ k4, I3 (some (Addr.mk n1 0 none)) 0 0 0 w2 k4) ∧
  ∀ (out_6_p : Option Addr) (out_6_n : Nat) (out_6_c : Nat) (i_7 : Int) (w8 : World) (k4 : Nat) (_ : Fr), I3 out_6_p out_6_n out_6_c i_7 w8 k4 →
  cnd (decide (i_7 < (c__n : Int)))
    (ixK c__p c__n i_7 1 fun a9 =>
      ∃ x10 : Int, w8.cell? a9 = some (.int .i64 x10) ∧ 
      Calls Try.prog 40 #[.slice out_6_p out_6_n out_6_c, .int .i64 x10] w8 fun e w11 => ∃ r12 : Bool, e = .returned (.bool r12) ∧ 
      cnd r12
      (∃ k5, k5 < k4 ∧ I3 out_6_p out_6_n out_6_c (IntKind.i64.wrap (i_7 + (1 : Int))) w11 k5)
      (∃ I13 : Int → World → Nat → Prop, (∃ k14, I13 0 w11 k14) ∧
        ∀ (at_16 : Int) (w17 : World) (k14 : Nat) (_ : Fr), I13 at_16 w17 k14 →
        cnd (decide (at_16 < (out_6_n : Int)))
          (ixK out_6_p out_6_n at_16 1 fun a18 =>
          ∃ x19 : Int, w17.drew.cell? a18 = some (.int .i64 x19) ∧ 
          ixK c__p c__n i_7 1 fun a20 =>
          ∃ x21 : Int, w17.drew.cell? a20 = some (.int .i64 x21) ∧ 
          Calls Try.prog 73 #[.int .i64 x19, .int .i64 x21] w17.drew fun e w22 => ∃ r23 : Bool, e = .returned (.bool r23) ∧ 
          cnd r23
          (∃ k15, k15 < k14 ∧ I13 (IntKind.i64.wrap (at_16 + (1 : Int))) w22 k15)
          (∀ (n24 : Nat) (w25 : World), New (.cells #[] 3) w22 n24 w25 → 
            slK out_6_p out_6_n out_6_c 1 none (some at_16) none fun s26_p s26_n s26_c =>
            ∃ w27 : World, ∃ r28_p : Option Addr, ∃ r28_n : Nat, ∃ r28_c : Nat, (Builtin.append_ #[26, 26] 26 #[.slice (some (Addr.mk n24 0 none)) 0 0, .slice s26_p s26_n s26_c]).run Try.prog w25 = .ok (.slice r28_p r28_n r28_c) w27 ∧ 
            ixK c__p c__n i_7 1 fun a29 =>
            ∃ x30 : Int, w27.cell? a29 = some (.int .i64 x30) ∧ 
            ∀ (n31 : Nat) (w32 : World), New (.cells #[.int .i64 x30] 3) w27 n31 w32 → 
            ∃ w33 : World, ∃ r34_p : Option Addr, ∃ r34_n : Nat, ∃ r34_c : Nat, (Builtin.append_ #[26, 26] 26 #[.slice r28_p r28_n r28_c, .slice (some (Addr.mk n31 0 none)) 1 1]).run Try.prog w32 = .ok (.slice r34_p r34_n r34_c) w33 ∧ 
            slK out_6_p out_6_n out_6_c 1 (some at_16) none none fun s35_p s35_n s35_c =>
            ∃ w36 : World, ∃ r37_p : Option Addr, ∃ r37_n : Nat, ∃ r37_c : Nat, (Builtin.append_ #[26, 26] 26 #[.slice r34_p r34_n r34_c, .slice s35_p s35_n s35_c]).run Try.prog w33 = .ok (.slice r37_p r37_n r37_c) w36 ∧ 
            ∃ k5, k5 < k4 ∧ I3 r37_p r37_n r37_c (IntKind.i64.wrap (i_7 + (1 : Int))) w36 k5))
          (∀ (n38 : Nat) (w39 : World), New (.cells #[] 3) w17.drew n38 w39 → 
          slK out_6_p out_6_n out_6_c 1 none (some at_16) none fun s40_p s40_n s40_c =>
          ∃ w41 : World, ∃ r42_p : Option Addr, ∃ r42_n : Nat, ∃ r42_c : Nat, (Builtin.append_ #[26, 26] 26 #[.slice (some (Addr.mk n38 0 none)) 0 0, .slice s40_p s40_n s40_c]).run Try.prog w39 = .ok (.slice r42_p r42_n r42_c) w41 ∧ 
          ixK c__p c__n i_7 1 fun a43 =>
          ∃ x44 : Int, w41.cell? a43 = some (.int .i64 x44) ∧ 
          ∀ (n45 : Nat) (w46 : World), New (.cells #[.int .i64 x44] 3) w41 n45 w46 → 
          ∃ w47 : World, ∃ r48_p : Option Addr, ∃ r48_n : Nat, ∃ r48_c : Nat, (Builtin.append_ #[26, 26] 26 #[.slice r42_p r42_n r42_c, .slice (some (Addr.mk n45 0 none)) 1 1]).run Try.prog w46 = .ok (.slice r48_p r48_n r48_c) w47 ∧ 
          slK out_6_p out_6_n out_6_c 1 (some at_16) none none fun s49_p s49_n s49_c =>
          ∃ w50 : World, ∃ r51_p : Option Addr, ∃ r51_n : Nat, ∃ r51_c : Nat, (Builtin.append_ #[26, 26] 26 #[.slice r48_p r48_n r48_c, .slice s49_p s49_n s49_c]).run Try.prog w47 = .ok (.slice r51_p r51_n r51_c) w50 ∧ 
          ∃ k5, k5 < k4 ∧ I3 r51_p r51_n r51_c (IntKind.i64.wrap (i_7 + (1 : Int))) w50 k5)))
    (K (.slice out_6_p out_6_n out_6_c) w8)
theorem fathomref01_Order.eq (c__p : Option Addr) (c__n : Nat) (c__c : Nat) (w : World) (K : Value → World → Prop) : wpF Try.prog Try.f32 (.two .leaf (.two .leaf (.two (.two .leaf (.one (.loop [(3, 26), (4, 3)] (.two .leaf (.two (.one (.two .leaf (.two .leaf (.two (.one (.loop [(5, 3)] .leaf)) .leaf)))) .leaf))))) .leaf))) [.slice c__p c__n c__c] w K = fathomref01_Order.w c__p c__n c__c w K := by kernel_rfl
theorem fathomref01_Order.ok : fnOk Try.prog Try.f32 1 = true := by kernel_rfl
theorem fathomref01_Order.calls {c__p : Option Addr} {c__n : Nat} {c__c : Nat} {w : World} {R : Ending → World → Prop} (h : fathomref01_Order.w c__p c__n c__c w fun v w' => R (.returned v) w') : Calls Try.prog 32 #[.slice c__p c__n c__c] w R :=
  calls_of mixed Try.func32 fathomref01_Order.ok rfl (fun K => fathomref01_Order.eq c__p c__n c__c w K) h

/-! ### fathom/fathomref01.Taut: function 33 (named slots 4) -/
def fathomref01_Taut.w (c__p : Option Addr) (c__n : Nat) (c__c : Nat) (w : World) (K : Value → World → Prop) : Prop :=
  ∃ I1 : Int → World → Nat → Prop, (∃ k2, I1 0 w k2) ∧
  ∀ (i_4 : Int) (w5 : World) (k2 : Nat) (_ : Fr), I1 i_4 w5 k2 →
  cnd (decide (i_4 < (c__n : Int)))
    (ixK c__p c__n i_4 1 fun a6 =>
      ∃ x7 : Int, w5.cell? a6 = some (.int .i64 x7) ∧ 
      Calls Try.prog 40 #[.slice c__p c__n c__c, .int .i64 (IntKind.i64.wrap (0 - x7))] w5 fun e w8 => ∃ r9 : Bool, e = .returned (.bool r9) ∧ 
      cnd r9
      (K (.bool true) w8)
      (∃ k3, k3 < k2 ∧ I1 (IntKind.i64.wrap (i_4 + (1 : Int))) w8 k3))
    (K (.bool false) w5)
theorem fathomref01_Taut.eq (c__p : Option Addr) (c__n : Nat) (c__c : Nat) (w : World) (K : Value → World → Prop) : wpF Try.prog Try.f33 (.two .leaf (.two (.two .leaf (.one (.loop [(3, 3)] .leaf))) .leaf)) [.slice c__p c__n c__c] w K = fathomref01_Taut.w c__p c__n c__c w K := by kernel_rfl
theorem fathomref01_Taut.ok : fnOk Try.prog Try.f33 1 = true := by kernel_rfl
theorem fathomref01_Taut.calls {c__p : Option Addr} {c__n : Nat} {c__c : Nat} {w : World} {R : Ending → World → Prop} (h : fathomref01_Taut.w c__p c__n c__c w fun v w' => R (.returned v) w') : Calls Try.prog 33 #[.slice c__p c__n c__c] w R :=
  calls_of mixed Try.func33 fathomref01_Taut.ok rfl (fun K => fathomref01_Taut.eq c__p c__n c__c w K) h

/-! ### fathom/lit.Within: function 34 (named slots 5) -/
def lit_Within.w (a__p : Option Addr) (a__n : Nat) (a__c : Nat) (b__p : Option Addr) (b__n : Nat) (b__c : Nat) (w : World) (K : Value → World → Prop) : Prop :=
  ∀ (n1 : Nat) (w2 : World), New (.cells #[.slice b__p b__n b__c] 26) w n1 w2 → 
  Calls Try.prog 70 #[.slice a__p a__n a__c, .func (.func 74) #[] #[.pointer (some (Addr.mk n1 0 none))]] w2 fun e w3 => ∃ r4 : Bool, e = .returned (.bool r4) ∧ 
  K (.bool (!r4)) w3
theorem lit_Within.eq (a__p : Option Addr) (a__n : Nat) (a__c : Nat) (b__p : Option Addr) (b__n : Nat) (b__c : Nat) (w : World) (K : Value → World → Prop) : wpF Try.prog Try.f34 .leaf [.slice a__p a__n a__c, .slice b__p b__n b__c] w K = lit_Within.w a__p a__n a__c b__p b__n b__c w K := by kernel_rfl
theorem lit_Within.ok : fnOk Try.prog Try.f34 2 = true := by kernel_rfl
theorem lit_Within.calls {a__p : Option Addr} {a__n : Nat} {a__c : Nat} {b__p : Option Addr} {b__n : Nat} {b__c : Nat} {w : World} {R : Ending → World → Prop} (h : lit_Within.w a__p a__n a__c b__p b__n b__c w fun v w' => R (.returned v) w') : Calls Try.prog 34 #[.slice a__p a__n a__c, .slice b__p b__n b__c] w R :=
  calls_of mixed Try.func34 lit_Within.ok rfl (fun K => lit_Within.eq a__p a__n a__c b__p b__n b__c w K) h

/-! ### fathom/lit.Value: function 35 (named slots 6) -/
def lit_Value.w (m__p : Option Addr) (m__n : Nat) (m__c : Nat) (l_ : Int) (w : World) (K : Value → World → Prop) : Prop :=
  Calls Try.prog 72 #[.int .i64 l_] w fun e w1 => ∃ r2 : Bool, e = .returned (.bool r2) ∧ 
  cnd (!r2)
  (K (.int .i64 0) w1)
  (Calls Try.prog 76 #[.int .i64 l_] w1 fun e w3 => ∃ r4 : Int, e = .returned (.int .i64 r4) ∧ 
  cnd (decide (r4 > (m__n : Int)))
  (K (.int .i64 0) w3)
  (Calls Try.prog 76 #[.int .i64 l_] w3 fun e w5 => ∃ r6 : Int, e = .returned (.int .i64 r6) ∧ 
    ixK m__p m__n (IntKind.i64.wrap (r6 - (1 : Int))) 1 fun a7 =>
    ∃ x8 : Int, w5.cell? a7 = some (.int .i64 x8) ∧ 
    cnd (x8 == (0 : Int))
    (K (.int .i64 0) w5)
    (cnd ((decide (x8 > (0 : Int))) == (decide (l_ > (0 : Int))))
      (K (.int .i64 1) w5)
      (K (.int .i64 (-1)) w5))))
theorem lit_Value.eq (m__p : Option Addr) (m__n : Nat) (m__c : Nat) (l_ : Int) (w : World) (K : Value → World → Prop) : wpF Try.prog Try.f35 .leaf [.slice m__p m__n m__c, .int .i64 l_] w K = lit_Value.w m__p m__n m__c l_ w K := by kernel_rfl
theorem lit_Value.ok : fnOk Try.prog Try.f35 2 = true := by kernel_rfl
theorem lit_Value.calls {m__p : Option Addr} {m__n : Nat} {m__c : Nat} {l_ : Int} {w : World} {R : Ending → World → Prop} (h : lit_Value.w m__p m__n m__c l_ w fun v w' => R (.returned v) w') : Calls Try.prog 35 #[.slice m__p m__n m__c, .int .i64 l_] w R :=
  calls_of mixed Try.func35 lit_Value.ok rfl (fun K => lit_Value.eq m__p m__n m__c l_ w K) h

/-! ### fathom/fathomref01.Value: function 36 (named slots 5) -/
def fathomref01_Value.w (m__p : Option Addr) (m__n : Nat) (m__c : Nat) (l_ : Int) (w : World) (K : Value → World → Prop) : Prop :=
  Calls Try.prog 55 #[.int .i64 l_] w fun e w1 => ∃ r2 : Bool, e = .returned (.bool r2) ∧ 
  cnd (!r2)
  (K (.int .i64 0) w1)
  (Calls Try.prog 77 #[.int .i64 l_] w1 fun e w3 => ∃ r4 : Int, e = .returned (.int .i64 r4) ∧ 
  cnd (decide (r4 > (m__n : Int)))
  (K (.int .i64 0) w3)
  (Calls Try.prog 77 #[.int .i64 l_] w3 fun e w5 => ∃ r6 : Int, e = .returned (.int .i64 r6) ∧ 
  ixK m__p m__n (IntKind.i64.wrap (r6 - (1 : Int))) 1 fun a7 =>
  ∃ x8 : Int, w5.cell? a7 = some (.int .i64 x8) ∧ 
  cnd (x8 == (0 : Int))
  (K (.int .i64 0) w5)
  (Calls Try.prog 77 #[.int .i64 l_] w5 fun e w9 => ∃ r10 : Int, e = .returned (.int .i64 r10) ∧ 
    ixK m__p m__n (IntKind.i64.wrap (r10 - (1 : Int))) 1 fun a11 =>
    ∃ x12 : Int, w9.cell? a11 = some (.int .i64 x12) ∧ 
    cnd ((decide (x12 > (0 : Int))) == (decide (l_ > (0 : Int))))
    (K (.int .i64 1) w9)
    (K (.int .i64 (-1)) w9))))
theorem fathomref01_Value.eq (m__p : Option Addr) (m__n : Nat) (m__c : Nat) (l_ : Int) (w : World) (K : Value → World → Prop) : wpF Try.prog Try.f36 .leaf [.slice m__p m__n m__c, .int .i64 l_] w K = fathomref01_Value.w m__p m__n m__c l_ w K := by kernel_rfl
theorem fathomref01_Value.ok : fnOk Try.prog Try.f36 2 = true := by kernel_rfl
theorem fathomref01_Value.calls {m__p : Option Addr} {m__n : Nat} {m__c : Nat} {l_ : Int} {w : World} {R : Ending → World → Prop} (h : fathomref01_Value.w m__p m__n m__c l_ w fun v w' => R (.returned v) w') : Calls Try.prog 36 #[.slice m__p m__n m__c, .int .i64 l_] w R :=
  calls_of mixed Try.func36 fathomref01_Value.ok rfl (fun K => fathomref01_Value.eq m__p m__n m__c l_ w K) h

/-! ### fathom/lit.Clause: function 37 (named slots 8) -/
def lit_Clause.w (m__p : Option Addr) (m__n : Nat) (m__c : Nat) (c__p : Option Addr) (c__n : Nat) (c__c : Nat) (w : World) (K : Value → World → Prop) : Prop :=
  Calls Try.prog 30 #[.slice c__p c__n c__c] w fun e w1 => ∃ r2 : Int, e = .returned (.int .i64 r2) ∧ 
  cnd (r2 != (0 : Int))
  (K (.int .i64 0) w1)
  (∃ I3 : Int → Int → World → Nat → Prop, (∃ k4, I3 (-1) 0 w1 k4) ∧
    ∀ (best_6 : Int) (v7 : Int) (w8 : World) (k4 : Nat) (_ : Fr), I3 best_6 v7 w8 k4 →
    cnd (decide (v7 < (c__n : Int)))
      (ixK c__p c__n v7 1 fun a9 =>
        ∃ x10 : Int, w8.cell? a9 = some (.int .i64 x10) ∧ 
        Calls Try.prog 35 #[.slice m__p m__n m__c, .int .i64 x10] w8 fun e w11 => ∃ r12 : Int, e = .returned (.int .i64 r12) ∧ 
        ∃ k5, k5 < k4 ∧ I3 (imax best_6 r12) (IntKind.i64.wrap (v7 + (1 : Int))) w11 k5)
      (K (.int .i64 best_6) w8))
theorem lit_Clause.eq (m__p : Option Addr) (m__n : Nat) (m__c : Nat) (c__p : Option Addr) (c__n : Nat) (c__c : Nat) (w : World) (K : Value → World → Prop) : wpF Try.prog Try.f37 (.two .leaf (.two .leaf (.two .leaf (.two (.two .leaf (.one (.loop [(5, 3), (13, 3)] .leaf))) .leaf)))) [.slice m__p m__n m__c, .slice c__p c__n c__c] w K = lit_Clause.w m__p m__n m__c c__p c__n c__c w K := by kernel_rfl
theorem lit_Clause.ok : fnOk Try.prog Try.f37 2 = true := by kernel_rfl
theorem lit_Clause.calls {m__p : Option Addr} {m__n : Nat} {m__c : Nat} {c__p : Option Addr} {c__n : Nat} {c__c : Nat} {w : World} {R : Ending → World → Prop} (h : lit_Clause.w m__p m__n m__c c__p c__n c__c w fun v w' => R (.returned v) w') : Calls Try.prog 37 #[.slice m__p m__n m__c, .slice c__p c__n c__c] w R :=
  calls_of mixed Try.func37 lit_Clause.ok rfl (fun K => lit_Clause.eq m__p m__n m__c c__p c__n c__c w K) h

/-! ### fathom/fathomref01.Clause: function 38 (named slots 7) -/
def fathomref01_Clause.w (m__p : Option Addr) (m__n : Nat) (m__c : Nat) (c__p : Option Addr) (c__n : Nat) (c__c : Nat) (w : World) (K : Value → World → Prop) : Prop :=
  ∃ I1 : Bool → Int → World → Nat → Prop, (∃ k2, I1 false 0 w k2) ∧
  ∀ (open_4 : Bool) (i_5 : Int) (w6 : World) (k2 : Nat) (_ : Fr), I1 open_4 i_5 w6 k2 →
  cnd (decide (i_5 < (c__n : Int)))
    (ixK c__p c__n i_5 1 fun a7 =>
      ∃ x8 : Int, w6.cell? a7 = some (.int .i64 x8) ∧ 
      Calls Try.prog 36 #[.slice m__p m__n m__c, .int .i64 x8] w6 fun e w9 => ∃ r10 : Int, e = .returned (.int .i64 r10) ∧ 
      cnd (r10 == (1 : Int))
      (K (.int .i64 1) w9)
      (cnd open_4
        (∃ k3, k3 < k2 ∧ I1 true (IntKind.i64.wrap (i_5 + (1 : Int))) w9 k3)
        (ixK c__p c__n i_5 1 fun a11 =>
        ∃ x12 : Int, w9.cell? a11 = some (.int .i64 x12) ∧ 
        Calls Try.prog 36 #[.slice m__p m__n m__c, .int .i64 x12] w9 fun e w13 => ∃ r14 : Int, e = .returned (.int .i64 r14) ∧ 
        ∃ k3, k3 < k2 ∧ I1 (r14 == (0 : Int)) (IntKind.i64.wrap (i_5 + (1 : Int))) w13 k3)))
    (cnd open_4
      (K (.int .i64 0) w6)
      (K (.int .i64 (-1)) w6))
theorem fathomref01_Clause.eq (m__p : Option Addr) (m__n : Nat) (m__c : Nat) (c__p : Option Addr) (c__n : Nat) (c__c : Nat) (w : World) (K : Value → World → Prop) : wpF Try.prog Try.f38 (.two .leaf (.two .leaf (.two (.two .leaf (.one (.loop [(5, 4), (6, 3)] .leaf))) .leaf))) [.slice m__p m__n m__c, .slice c__p c__n c__c] w K = fathomref01_Clause.w m__p m__n m__c c__p c__n c__c w K := by kernel_rfl
theorem fathomref01_Clause.ok : fnOk Try.prog Try.f38 2 = true := by kernel_rfl
theorem fathomref01_Clause.calls {m__p : Option Addr} {m__n : Nat} {m__c : Nat} {c__p : Option Addr} {c__n : Nat} {c__c : Nat} {w : World} {R : Ending → World → Prop} (h : fathomref01_Clause.w m__p m__n m__c c__p c__n c__c w fun v w' => R (.returned v) w') : Calls Try.prog 38 #[.slice m__p m__n m__c, .slice c__p c__n c__c] w R :=
  calls_of mixed Try.func38 fathomref01_Clause.ok rfl (fun K => fathomref01_Clause.eq m__p m__n m__c c__p c__n c__c w K) h

/-! ### fathom/lit.Resolve: function 39 (named slots 13) -/
def lit_Resolve.w (a__p : Option Addr) (a__n : Nat) (a__c : Nat) (b__p : Option Addr) (b__n : Nat) (b__c : Nat) (v_ : Int) (w : World) (K : Value → World → Prop) : Prop :=
  Calls Try.prog 30 #[.slice a__p a__n a__c] w fun e w1 => ∃ r2 : Int, e = .returned (.int .i64 r2) ∧ 
  cnd (r2 != (0 : Int))
  (K (.tuple #[.slice none 0 0, .int .i64 1]) w1)
  (Calls Try.prog 30 #[.slice b__p b__n b__c] w1 fun e w3 => ∃ r4 : Int, e = .returned (.int .i64 r4) ∧ 
  cnd (r4 != (0 : Int))
  (K (.tuple #[.slice none 0 0, .int .i64 1]) w3)
  (cnd (decide (v_ < (1 : Int)))
  (K (.tuple #[.slice none 0 0, .int .i64 1]) w3)
  (cnd (decide (v_ > (1048576 : Int)))
  (K (.tuple #[.slice none 0 0, .int .i64 1]) w3)
  (Calls Try.prog 75 #[.slice a__p a__n a__c, .int .i64 v_] w3 fun e w5 => ∃ r6 : Bool, e = .returned (.bool r6) ∧ 
    cnd (!r6)
    (K (.tuple #[.slice none 0 0, .int .i64 4]) w5)
    (Calls Try.prog 75 #[.slice b__p b__n b__c, .int .i64 (IntKind.i64.wrap (0 - v_))] w5 fun e w7 => ∃ r8 : Bool, e = .returned (.bool r8) ∧ 
    cnd (!r8)
    (K (.tuple #[.slice none 0 0, .int .i64 4]) w7)
    (∃ I9 : Option Addr → Nat → Nat → Int → World → Nat → Prop, (∃ k10, I9 none 0 0 0 w7 k10) ∧
      ∀ (l_12_p : Option Addr) (l_12_n : Nat) (l_12_c : Nat) (v13 : Int) (w14 : World) (k10 : Nat) (_ : Fr), I9 l_12_p l_12_n l_12_c v13 w14 k10 →
      cnd (decide (v13 < (a__n : Int)))
        (ixK a__p a__n v13 1 fun a15 =>
          ∃ x16 : Int, w14.cell? a15 = some (.int .i64 x16) ∧ 
          cnd (x16 != v_)
          (∀ (n17 : Nat) (w18 : World), New (.cells #[.int .i64 x16] 3) w14 n17 w18 → 
            ∃ w19 : World, ∃ r20_p : Option Addr, ∃ r20_n : Nat, ∃ r20_c : Nat, (Builtin.append_ #[26, 26] 26 #[.slice l_12_p l_12_n l_12_c, .slice (some (Addr.mk n17 0 none)) 1 1]).run Try.prog w18 = .ok (.slice r20_p r20_n r20_c) w19 ∧ 
            ∃ k11, k11 < k10 ∧ I9 r20_p r20_n r20_c (IntKind.i64.wrap (v13 + (1 : Int))) w19 k11)
          (∃ k11, k11 < k10 ∧ I9 l_12_p l_12_n l_12_c (IntKind.i64.wrap (v13 + (1 : Int))) w14 k11))
        (∃ I21 : Option Addr → Nat → Nat → Int → World → Nat → Prop, (∃ k22, I21 l_12_p l_12_n l_12_c 0 w14 k22) ∧
          ∀ (l_24_p : Option Addr) (l_24_n : Nat) (l_24_c : Nat) (v25 : Int) (w26 : World) (k22 : Nat) (_ : Fr), I21 l_24_p l_24_n l_24_c v25 w26 k22 →
          cnd (decide (v25 < (b__n : Int)))
            (ixK b__p b__n v25 1 fun a27 =>
              ∃ x28 : Int, w26.cell? a27 = some (.int .i64 x28) ∧ 
              cnd (x28 != (IntKind.i64.wrap (0 - v_)))
              (∀ (n29 : Nat) (w30 : World), New (.cells #[.int .i64 x28] 3) w26 n29 w30 → 
                ∃ w31 : World, ∃ r32_p : Option Addr, ∃ r32_n : Nat, ∃ r32_c : Nat, (Builtin.append_ #[26, 26] 26 #[.slice l_24_p l_24_n l_24_c, .slice (some (Addr.mk n29 0 none)) 1 1]).run Try.prog w30 = .ok (.slice r32_p r32_n r32_c) w31 ∧ 
                ∃ k23, k23 < k22 ∧ I21 r32_p r32_n r32_c (IntKind.i64.wrap (v25 + (1 : Int))) w31 k23)
              (∃ k23, k23 < k22 ∧ I21 l_24_p l_24_n l_24_c (IntKind.i64.wrap (v25 + (1 : Int))) w26 k23))
            (Calls Try.prog 65 #[.slice l_24_p l_24_n l_24_c, .func (.func 68) #[] #[]] w26 fun e w33 => e = .returned (.tuple #[]) ∧ 
              Calls Try.prog 69 #[.slice l_24_p l_24_n l_24_c] w33 fun e w34 => ∃ r35_p : Option Addr, ∃ r35_n : Nat, ∃ r35_c : Nat, e = .returned (.slice r35_p r35_n r35_c) ∧ 
              K (.tuple #[.slice r35_p r35_n r35_c, .int .i64 0]) w34))))))))
theorem lit_Resolve.eq (a__p : Option Addr) (a__n : Nat) (a__c : Nat) (b__p : Option Addr) (b__n : Nat) (b__c : Nat) (v_ : Int) (w : World) (K : Value → World → Prop) : wpF Try.prog Try.f39 (.two .leaf (.two .leaf (.two .leaf (.two (.two .leaf (.one (.loop [(8, 26), (44, 3)] .leaf))) (.two (.two .leaf (.one (.loop [(8, 26), (58, 3)] .leaf))) .leaf))))) [.slice a__p a__n a__c, .slice b__p b__n b__c, .int .i64 v_] w K = lit_Resolve.w a__p a__n a__c b__p b__n b__c v_ w K := by kernel_rfl
theorem lit_Resolve.ok : fnOk Try.prog Try.f39 3 = true := by kernel_rfl
theorem lit_Resolve.calls {a__p : Option Addr} {a__n : Nat} {a__c : Nat} {b__p : Option Addr} {b__n : Nat} {b__c : Nat} {v_ : Int} {w : World} {R : Ending → World → Prop} (h : lit_Resolve.w a__p a__n a__c b__p b__n b__c v_ w fun v w' => R (.returned v) w') : Calls Try.prog 39 #[.slice a__p a__n a__c, .slice b__p b__n b__c, .int .i64 v_] w R :=
  calls_of mixed Try.func39 lit_Resolve.ok rfl (fun K => lit_Resolve.eq a__p a__n a__c b__p b__n b__c v_ w K) h

/-! ### fathom/fathomref01.Has: function 40 (named slots 6) -/
def fathomref01_Has.w (l__p : Option Addr) (l__n : Nat) (l__c : Nat) (n_ : Int) (w : World) (K : Value → World → Prop) : Prop :=
  ∃ I1 : Int → World → Nat → Prop, (∃ k2, I1 0 w k2) ∧
  ∀ (i_4 : Int) (w5 : World) (k2 : Nat) (_ : Fr), I1 i_4 w5 k2 →
  cnd (decide (i_4 < (l__n : Int)))
    (ixK l__p l__n i_4 1 fun a6 =>
      ∃ x7 : Int, w5.cell? a6 = some (.int .i64 x7) ∧ 
      cnd (x7 == n_)
      (K (.bool true) w5)
      (∃ k3, k3 < k2 ∧ I1 (IntKind.i64.wrap (i_4 + (1 : Int))) w5 k3))
    (K (.bool false) w5)
theorem fathomref01_Has.eq (l__p : Option Addr) (l__n : Nat) (l__c : Nat) (n_ : Int) (w : World) (K : Value → World → Prop) : wpF Try.prog Try.f40 (.two .leaf (.two (.two .leaf (.one (.loop [(5, 3)] .leaf))) .leaf)) [.slice l__p l__n l__c, .int .i64 n_] w K = fathomref01_Has.w l__p l__n l__c n_ w K := by kernel_rfl
theorem fathomref01_Has.ok : fnOk Try.prog Try.f40 2 = true := by kernel_rfl
theorem fathomref01_Has.calls {l__p : Option Addr} {l__n : Nat} {l__c : Nat} {n_ : Int} {w : World} {R : Ending → World → Prop} (h : fathomref01_Has.w l__p l__n l__c n_ w fun v w' => R (.returned v) w') : Calls Try.prog 40 #[.slice l__p l__n l__c, .int .i64 n_] w R :=
  calls_of mixed Try.func40 fathomref01_Has.ok rfl (fun K => fathomref01_Has.eq l__p l__n l__c n_ w K) h

/-! ### fathom/fathomref01.Without: function 41 (named slots 7) -/
def fathomref01_Without.w (c__p : Option Addr) (c__n : Nat) (c__c : Nat) (n_ : Int) (w : World) (K : Value → World → Prop) : Prop :=
  ∀ (n1 : Nat) (w2 : World), New (.cells #[] 3) w n1 w2 → 
  ∃ I3 : Option Addr → Nat → Nat → Int → World → Nat → Prop, (∃ k4, I3 (some (Addr.mk n1 0 none)) 0 0 0 w2 k4) ∧
  ∀ (out_6_p : Option Addr) (out_6_n : Nat) (out_6_c : Nat) (i_7 : Int) (w8 : World) (k4 : Nat) (_ : Fr), I3 out_6_p out_6_n out_6_c i_7 w8 k4 →
  cnd (decide (i_7 < (c__n : Int)))
    (ixK c__p c__n i_7 1 fun a9 =>
      ∃ x10 : Int, w8.cell? a9 = some (.int .i64 x10) ∧ 
      cnd (x10 != n_)
      (ixK c__p c__n i_7 1 fun a11 =>
        ∃ x12 : Int, w8.cell? a11 = some (.int .i64 x12) ∧ 
        ∀ (n13 : Nat) (w14 : World), New (.cells #[.int .i64 x12] 3) w8 n13 w14 → 
        ∃ w15 : World, ∃ r16_p : Option Addr, ∃ r16_n : Nat, ∃ r16_c : Nat, (Builtin.append_ #[26, 26] 26 #[.slice out_6_p out_6_n out_6_c, .slice (some (Addr.mk n13 0 none)) 1 1]).run Try.prog w14 = .ok (.slice r16_p r16_n r16_c) w15 ∧ 
        ∃ k5, k5 < k4 ∧ I3 r16_p r16_n r16_c (IntKind.i64.wrap (i_7 + (1 : Int))) w15 k5)
      (∃ k5, k5 < k4 ∧ I3 out_6_p out_6_n out_6_c (IntKind.i64.wrap (i_7 + (1 : Int))) w8 k5))
    (K (.slice out_6_p out_6_n out_6_c) w8)
theorem fathomref01_Without.eq (c__p : Option Addr) (c__n : Nat) (c__c : Nat) (n_ : Int) (w : World) (K : Value → World → Prop) : wpF Try.prog Try.f41 (.two .leaf (.two .leaf (.two (.two .leaf (.one (.loop [(5, 26), (6, 3)] .leaf))) .leaf))) [.slice c__p c__n c__c, .int .i64 n_] w K = fathomref01_Without.w c__p c__n c__c n_ w K := by kernel_rfl
theorem fathomref01_Without.ok : fnOk Try.prog Try.f41 2 = true := by kernel_rfl
theorem fathomref01_Without.calls {c__p : Option Addr} {c__n : Nat} {c__c : Nat} {n_ : Int} {w : World} {R : Ending → World → Prop} (h : fathomref01_Without.w c__p c__n c__c n_ w fun v w' => R (.returned v) w') : Calls Try.prog 41 #[.slice c__p c__n c__c, .int .i64 n_] w R :=
  calls_of mixed Try.func41 fathomref01_Without.ok rfl (fun K => fathomref01_Without.eq c__p c__n c__c n_ w K) h

/-! ### fathom/fathomlaw12.light: function 42 (named slots 6) -/
def fathomlaw12_light.w (t__p : Option Addr) (t__n : Nat) (t__c : Nat) (c__p : Option Addr) (c__n : Nat) (c__c : Nat) (w : World) (K : Value → World → Prop) : Prop :=
  ∃ I1 : Int → World → Nat → Prop, (∃ k2, I1 0 w k2) ∧
  ∀ (i_4 : Int) (w5 : World) (k2 : Nat) (_ : Fr), I1 i_4 w5 k2 →
  cnd (decide (i_4 < (t__n : Int)))
    (cnd (decide (i_4 ≤ (20 : Int)))
    (ixK t__p t__n i_4 3 fun a6 =>
      ∃ x7_p : Option Addr, ∃ x7_n : Nat, ∃ x7_c : Nat, w5.cell? (a6.add 2) = some (.slice x7_p x7_n x7_c) ∧ 
      cnd (decide ((x7_n : Int) > (300 : Int)))
      (K (.bool false) w5)
      (∃ k3, k3 < k2 ∧ I1 (IntKind.i64.wrap (i_4 + (1 : Int))) w5 k3))
    (cnd (decide ((t__n : Int) ≤ (20 : Int)))
      (K (.bool (decide ((c__n : Int) ≤ (100 : Int)))) w5)
      (K (.bool false) w5)))
    (cnd (decide ((t__n : Int) ≤ (20 : Int)))
    (K (.bool (decide ((c__n : Int) ≤ (100 : Int)))) w5)
    (K (.bool false) w5))
theorem fathomlaw12_light.eq (t__p : Option Addr) (t__n : Nat) (t__c : Nat) (c__p : Option Addr) (c__n : Nat) (c__c : Nat) (w : World) (K : Value → World → Prop) : wpF Try.prog Try.f42 (.two .leaf (.two (.two .leaf (.one (.loop [(5, 3)] .leaf))) .leaf)) [.slice t__p t__n t__c, .slice c__p c__n c__c] w K = fathomlaw12_light.w t__p t__n t__c c__p c__n c__c w K := by kernel_rfl
theorem fathomlaw12_light.ok : fnOk Try.prog Try.f42 2 = true := by kernel_rfl
theorem fathomlaw12_light.calls {t__p : Option Addr} {t__n : Nat} {t__c : Nat} {c__p : Option Addr} {c__n : Nat} {c__c : Nat} {w : World} {R : Ending → World → Prop} (h : fathomlaw12_light.w t__p t__n t__c c__p c__n c__c w fun v w' => R (.returned v) w') : Calls Try.prog 42 #[.slice t__p t__n t__c, .slice c__p c__n c__c] w R :=
  calls_of mixed Try.func42 fathomlaw12_light.ok rfl (fun K => fathomlaw12_light.eq t__p t__n t__c c__p c__n c__c w K) h

/-! ### fathom/fathomlaw12.awake: function 43 (named slots 4) -/
def fathomlaw12_awake.w (w : World) (K : Value → World → Prop) : Prop :=
  ∀ (n1 : Nat) (w2 : World), New (.cells #[.int .i64 2, .int .i64 (-1)] 3) w n1 w2 → 
  ∀ (n3 : Nat) (w4 : World), New (.cells #[.int .i64 3, .int .i64 (-1)] 3) w2 n3 w4 → 
  ∀ (n5 : Nat) (w6 : World), New (.cells #[.int .i64 1, .int .i64 1, .slice none 0 0, .int .i64 2, .int .i64 1, .slice (some (Addr.mk n1 0 none)) 2 2, .int .i64 3, .int .i64 1, .slice (some (Addr.mk n3 0 none)) 2 2] 73) w4 n5 w6 → 
  ∀ (n7 : Nat) (w8 : World), New (.cells #[.int .i64 (-2), .int .i64 (-3)] 3) w6 n7 w8 → 
  Calls Try.prog 46 #[.slice (some (Addr.mk n5 0 none)) 3 3, .slice (some (Addr.mk n7 0 none)) 2 2] w8 fun e w9 => ∃ r10_p : Option Addr, ∃ r10_n : Nat, ∃ r10_c : Nat, ∃ r11 : Int, e = .returned (.tuple #[.slice r10_p r10_n r10_c, .int .i64 r11]) ∧ 
  cnd (r11 == (0 : Int))
  (∀ (n12 : Nat) (w13 : World), New (.cells #[.int .i64 (-1)] 3) w9 n12 w13 → 
  Calls Try.prog 31 #[.slice r10_p r10_n r10_c, .slice (some (Addr.mk n12 0 none)) 1 1] w13 fun e w14 => ∃ r15 : Bool, e = .returned (.bool r15) ∧ 
  K (.bool r15) w14)
  (K (.bool false) w9)
theorem fathomlaw12_awake.eq (w : World) (K : Value → World → Prop) : wpF Try.prog Try.f43 .leaf [] w K = fathomlaw12_awake.w  w K := by kernel_rfl
theorem fathomlaw12_awake.ok : fnOk Try.prog Try.f43 0 = true := by kernel_rfl
theorem fathomlaw12_awake.calls {w : World} {R : Ending → World → Prop} (h : fathomlaw12_awake.w  w fun v w' => R (.returned v) w') : Calls Try.prog 43 #[] w R :=
  calls_of mixed Try.func43 fathomlaw12_awake.ok rfl (fun K => fathomlaw12_awake.eq  w K) h

/-! ### fathom/learn.Check: function 44 (named slots 5) -/
def learn_Check.w (trail__p : Option Addr) (trail__n : Nat) (trail__c : Nat) (broken__p : Option Addr) (broken__n : Nat) (broken__c : Nat) (w : World) (K : Value → World → Prop) : Prop :=
  Calls Try.prog 78 #[.slice trail__p trail__n trail__c] w fun e w1 => ∃ r2 : Bool, e = .returned (.bool r2) ∧ 
  cnd (!r2)
  (K (.int .i64 1) w1)
  (Calls Try.prog 30 #[.slice broken__p broken__n broken__c] w1 fun e w3 => ∃ r4 : Int, e = .returned (.int .i64 r4) ∧ 
  cnd (r4 != (0 : Int))
  (K (.int .i64 1) w3)
  (Calls Try.prog 79 #[.slice trail__p trail__n trail__c, .slice broken__p broken__n broken__c] w3 fun e w5 => ∃ r6 : Bool, e = .returned (.bool r6) ∧ 
  cnd (!r6)
  (K (.int .i64 1) w5)
  (K (.int .i64 0) w5)))
theorem learn_Check.eq (trail__p : Option Addr) (trail__n : Nat) (trail__c : Nat) (broken__p : Option Addr) (broken__n : Nat) (broken__c : Nat) (w : World) (K : Value → World → Prop) : wpF Try.prog Try.f44 .leaf [.slice trail__p trail__n trail__c, .slice broken__p broken__n broken__c] w K = learn_Check.w trail__p trail__n trail__c broken__p broken__n broken__c w K := by kernel_rfl
theorem learn_Check.ok : fnOk Try.prog Try.f44 2 = true := by kernel_rfl
theorem learn_Check.calls {trail__p : Option Addr} {trail__n : Nat} {trail__c : Nat} {broken__p : Option Addr} {broken__n : Nat} {broken__c : Nat} {w : World} {R : Ending → World → Prop} (h : learn_Check.w trail__p trail__n trail__c broken__p broken__n broken__c w fun v w' => R (.returned v) w') : Calls Try.prog 44 #[.slice trail__p trail__n trail__c, .slice broken__p broken__n broken__c] w R :=
  calls_of mixed Try.func44 learn_Check.ok rfl (fun K => learn_Check.eq trail__p trail__n trail__c broken__p broken__n broken__c w K) h

/-! ### fathom/fathomlaw12.may: function 45 (named slots 5) -/
def fathomlaw12_may.w (t__p : Option Addr) (t__n : Nat) (t__c : Nat) (c__p : Option Addr) (c__n : Nat) (c__c : Nat) (w : World) (K : Value → World → Prop) : Prop :=
  Calls Try.prog 80 #[.slice t__p t__n t__c] w fun e w1 => ∃ r2 : Bool, e = .returned (.bool r2) ∧ 
  cnd r2
  (Calls Try.prog 29 #[.slice c__p c__n c__c] w1 fun e w3 => ∃ r4 : Bool, e = .returned (.bool r4) ∧ 
  cnd r4
  (Calls Try.prog 60 #[.slice t__p t__n t__c, .slice c__p c__n c__c] w3 fun e w5 => ∃ r6 : Bool, e = .returned (.bool r6) ∧ 
  K (.bool r6) w5)
  (K (.bool false) w3))
  (K (.bool false) w1)
theorem fathomlaw12_may.eq (t__p : Option Addr) (t__n : Nat) (t__c : Nat) (c__p : Option Addr) (c__n : Nat) (c__c : Nat) (w : World) (K : Value → World → Prop) : wpF Try.prog Try.f45 .leaf [.slice t__p t__n t__c, .slice c__p c__n c__c] w K = fathomlaw12_may.w t__p t__n t__c c__p c__n c__c w K := by kernel_rfl
theorem fathomlaw12_may.ok : fnOk Try.prog Try.f45 2 = true := by kernel_rfl
theorem fathomlaw12_may.calls {t__p : Option Addr} {t__n : Nat} {t__c : Nat} {c__p : Option Addr} {c__n : Nat} {c__c : Nat} {w : World} {R : Ending → World → Prop} (h : fathomlaw12_may.w t__p t__n t__c c__p c__n c__c w fun v w' => R (.returned v) w') : Calls Try.prog 45 #[.slice t__p t__n t__c, .slice c__p c__n c__c] w R :=
  calls_of mixed Try.func45 fathomlaw12_may.ok rfl (fun K => fathomlaw12_may.eq t__p t__n t__c c__p c__n c__c w K) h

/-! ### fathom/learn.Learn: function 46 (named slots 12) -/
def learn_Learn.w (trail__p : Option Addr) (trail__n : Nat) (trail__c : Nat) (broken__p : Option Addr) (broken__n : Nat) (broken__c : Nat) (w : World) (K : Value → World → Prop) : Prop :=
  Calls Try.prog 44 #[.slice trail__p trail__n trail__c, .slice broken__p broken__n broken__c] w fun e w1 => ∃ r2 : Int, e = .returned (.int .i64 r2) ∧ 
  cnd (r2 != (0 : Int))
  (K (.tuple #[.slice none 0 0, .int .i64 r2]) w1)
  (Calls Try.prog 81 #[.slice trail__p trail__n trail__c] w1 fun e w3 => ∃ r4 : Option Nat, e = .returned (.map r4) ∧ 
    ∀ (n5 : Nat) (w6 : World), New (.map #[] 0) w3 n5 w6 → 
    ∀ (n7 : Nat) (w8 : World), New (.cells #[.slice trail__p trail__n trail__c, .map r4, .map (some n5)] 86) w6 n7 w8 → 
    Calls Try.prog 82 #[.pointer (some (Addr.mk n7 0 none)), .slice broken__p broken__n broken__c, .int .i64 0] w8 fun e w9 => e = .returned (.tuple #[]) ∧ 
    Calls Try.prog 83 #[.pointer (some (Addr.mk n7 0 none))] w9 fun e w10 => ∃ r11 : Int, ∃ r12 : Int, ∃ r13 : Int, e = .returned (.tuple #[.int .i64 r11, .int .i64 r12, .int .i64 r13]) ∧ 
    ∃ I14 : Int → Int → World → Nat → Prop, (∃ k15, I14 r12 r13 w10 k15) ∧
    ∀ (n_17 : Int) (last_18 : Int) (w19 : World) (k15 : Nat) (_ : Fr), I14 n_17 last_18 w19 k15 →
    cnd (decide (n_17 > (1 : Int)))
      (ixK trail__p trail__n last_18 3 fun a20 =>
      ∃ x21 : Int, ∃ x22 : Int, ∃ x23_p : Option Addr, ∃ x23_n : Nat, ∃ x23_c : Nat, CellsAt w19 a20 0 [.int .i64 x21, .int .i64 x22, .slice x23_p x23_n x23_c] ∧ 
      ∀ (n24 : Nat) (w25 : World), New (.cells #[.int .i64 0, .int .i64 0, .slice none 0 0] 73) w19 n24 w25 → 
      ∃ w26 : World, StoreAt (Addr.mk n24 0 none) 0 [.int .i64 x21, .int .i64 x22, .slice x23_p x23_n x23_c] w25 w26 ∧ 
      ∃ a27 : Addr, (some (Addr.mk n7 0 none)) = some a27 ∧ ∃ x28 : Option Nat, w26.drew.cell? (a27.add 2) = some (.map x28) ∧ 
      ∃ x29 : Int, w26.drew.cell? ((Addr.mk n24 0 none).add 0) = some (.int .i64 x29) ∧ 
      ∃ w30 : World, (Builtin.delete_ #[84, 3] 0 #[.map x28, .int .i64 (IntKind.i64.wrap (0 - x29))]).run Try.prog w26.drew = .ok (.tuple #[]) w30 ∧ 
      ∃ x31_p : Option Addr, ∃ x31_n : Nat, ∃ x31_c : Nat, w30.cell? ((Addr.mk n24 0 none).add 2) = some (.slice x31_p x31_n x31_c) ∧ 
      ∃ x32 : Int, w30.cell? ((Addr.mk n24 0 none).add 0) = some (.int .i64 x32) ∧ 
      Calls Try.prog 82 #[.pointer (some (Addr.mk n7 0 none)), .slice x31_p x31_n x31_c, .int .i64 x32] w30 fun e w33 => e = .returned (.tuple #[]) ∧ 
      Calls Try.prog 83 #[.pointer (some (Addr.mk n7 0 none))] w33 fun e w34 => ∃ r35 : Int, ∃ r36 : Int, ∃ r37 : Int, e = .returned (.tuple #[.int .i64 r35, .int .i64 r36, .int .i64 r37]) ∧ 
      ∃ k16, k16 < k15 ∧ I14 r36 r37 w34 k16)
      (cnd (n_17 == (1 : Int))
      (cnd (r11 == (0 : Int))
      (ixK trail__p trail__n last_18 3 fun a38 =>
        ∃ x39 : Int, ∃ x40 : Int, ∃ x41_p : Option Addr, ∃ x41_n : Nat, ∃ x41_c : Nat, CellsAt w19 a38 0 [.int .i64 x39, .int .i64 x40, .slice x41_p x41_n x41_c] ∧ 
        ∀ (n42 : Nat) (w43 : World), New (.cells #[.int .i64 0, .int .i64 0, .slice none 0 0] 73) w19 n42 w43 → 
        ∃ w44 : World, StoreAt (Addr.mk n42 0 none) 0 [.int .i64 x39, .int .i64 x40, .slice x41_p x41_n x41_c] w43 w44 ∧ 
        ∃ a45 : Addr, (some (Addr.mk n7 0 none)) = some a45 ∧ ∃ x46 : Option Nat, w44.drew.cell? (a45.add 2) = some (.map x46) ∧ 
        ∃ x47 : Int, w44.drew.cell? ((Addr.mk n42 0 none).add 0) = some (.int .i64 x47) ∧ 
        ∃ w48 : World, (Builtin.delete_ #[84, 3] 0 #[.map x46, .int .i64 (IntKind.i64.wrap (0 - x47))]).run Try.prog w44.drew = .ok (.tuple #[]) w48 ∧ 
        ∃ x49_p : Option Addr, ∃ x49_n : Nat, ∃ x49_c : Nat, w48.cell? ((Addr.mk n42 0 none).add 2) = some (.slice x49_p x49_n x49_c) ∧ 
        ∃ x50 : Int, w48.cell? ((Addr.mk n42 0 none).add 0) = some (.int .i64 x50) ∧ 
        Calls Try.prog 82 #[.pointer (some (Addr.mk n7 0 none)), .slice x49_p x49_n x49_c, .int .i64 x50] w48 fun e w51 => e = .returned (.tuple #[]) ∧ 
        Calls Try.prog 83 #[.pointer (some (Addr.mk n7 0 none))] w51 fun e w52 => ∃ r53 : Int, ∃ r54 : Int, ∃ r55 : Int, e = .returned (.tuple #[.int .i64 r53, .int .i64 r54, .int .i64 r55]) ∧ 
        ∃ k16, k16 < k15 ∧ I14 r54 r55 w52 k16)
      (Calls Try.prog 84 #[.pointer (some (Addr.mk n7 0 none))] w19 fun e w56 => ∃ r57_p : Option Addr, ∃ r57_n : Nat, ∃ r57_c : Nat, e = .returned (.slice r57_p r57_n r57_c) ∧ 
        K (.tuple #[.slice r57_p r57_n r57_c, .int .i64 0]) w56))
      (Calls Try.prog 84 #[.pointer (some (Addr.mk n7 0 none))] w19 fun e w58 => ∃ r59_p : Option Addr, ∃ r59_n : Nat, ∃ r59_c : Nat, e = .returned (.slice r59_p r59_n r59_c) ∧ 
      K (.tuple #[.slice r59_p r59_n r59_c, .int .i64 0]) w58)))
theorem learn_Learn.eq (trail__p : Option Addr) (trail__n : Nat) (trail__c : Nat) (broken__p : Option Addr) (broken__n : Nat) (broken__c : Nat) (w : World) (K : Value → World → Prop) : wpF Try.prog Try.f46 (.two .leaf (.two .leaf (.two .leaf (.two .leaf (.two .leaf (.two (.one (.loop [(9, 3), (10, 3)] .leaf)) .leaf)))))) [.slice trail__p trail__n trail__c, .slice broken__p broken__n broken__c] w K = learn_Learn.w trail__p trail__n trail__c broken__p broken__n broken__c w K := by kernel_rfl
theorem learn_Learn.ok : fnOk Try.prog Try.f46 2 = true := by kernel_rfl
theorem learn_Learn.calls {trail__p : Option Addr} {trail__n : Nat} {trail__c : Nat} {broken__p : Option Addr} {broken__n : Nat} {broken__c : Nat} {w : World} {R : Ending → World → Prop} (h : learn_Learn.w trail__p trail__n trail__c broken__p broken__n broken__c w fun v w' => R (.returned v) w') : Calls Try.prog 46 #[.slice trail__p trail__n trail__c, .slice broken__p broken__n broken__c] w R :=
  calls_of mixed Try.func46 learn_Learn.ok rfl (fun K => learn_Learn.eq trail__p trail__n trail__c broken__p broken__n broken__c w K) h

/-! ### fathom/fathomlaw01.Light: function 47 (named slots 5) -/
def fathomlaw01_Light.w (f_0 : Int) (f_1_p : Option Addr) (f_1_n : Nat) (f_1_c : Nat) (w : World) (K : Value → World → Prop) : Prop :=
  ∀ (n1 : Nat) (w2 : World), New (.cells #[.int .i64 f_0, .slice f_1_p f_1_n f_1_c] 61) w n1 w2 → 
  ∃ I3 : Int → Int → World → Nat → Prop, (∃ k4, I3 0 0 w2 k4) ∧
  ∀ (n_6 : Int) (i_7 : Int) (w8 : World) (k4 : Nat) (_ : Fr), I3 n_6 i_7 w8 k4 →
  ∃ x9_p : Option Addr, ∃ x9_n : Nat, ∃ x9_c : Nat, w8.cell? ((Addr.mk n1 0 none).add 1) = some (.slice x9_p x9_n x9_c) ∧ 
    cnd (decide (i_7 < (x9_n : Int)))
    (cnd (decide (i_7 ≤ (300 : Int)))
    (∃ x10_p : Option Addr, ∃ x10_n : Nat, ∃ x10_c : Nat, w8.cell? ((Addr.mk n1 0 none).add 1) = some (.slice x10_p x10_n x10_c) ∧ 
      ixK x10_p x10_n i_7 1 fun a11 =>
      ∃ x12_p : Option Addr, ∃ x12_n : Nat, ∃ x12_c : Nat, w8.cell? a11 = some (.slice x12_p x12_n x12_c) ∧ 
      cnd (decide ((x12_n : Int) > (5000 : Int)))
      (K (.bool false) w8)
      (∃ x13_p : Option Addr, ∃ x13_n : Nat, ∃ x13_c : Nat, w8.cell? ((Addr.mk n1 0 none).add 1) = some (.slice x13_p x13_n x13_c) ∧ 
        ixK x13_p x13_n i_7 1 fun a14 =>
        ∃ x15_p : Option Addr, ∃ x15_n : Nat, ∃ x15_c : Nat, w8.cell? a14 = some (.slice x15_p x15_n x15_c) ∧ 
        ∃ k5, k5 < k4 ∧ I3 (IntKind.i64.wrap (n_6 + (x15_n : Int))) (IntKind.i64.wrap (i_7 + (1 : Int))) w8 k5))
    (∃ x16_p : Option Addr, ∃ x16_n : Nat, ∃ x16_c : Nat, w8.cell? ((Addr.mk n1 0 none).add 1) = some (.slice x16_p x16_n x16_c) ∧ 
      cnd (decide ((x16_n : Int) ≤ (300 : Int)))
      (K (.bool (decide (n_6 ≤ (6000 : Int)))) w8)
      (K (.bool false) w8)))
    (∃ x17_p : Option Addr, ∃ x17_n : Nat, ∃ x17_c : Nat, w8.cell? ((Addr.mk n1 0 none).add 1) = some (.slice x17_p x17_n x17_c) ∧ 
    cnd (decide ((x17_n : Int) ≤ (300 : Int)))
    (K (.bool (decide (n_6 ≤ (6000 : Int)))) w8)
    (K (.bool false) w8))
theorem fathomlaw01_Light.eq (f_0 : Int) (f_1_p : Option Addr) (f_1_n : Nat) (f_1_c : Nat) (w : World) (K : Value → World → Prop) : wpF Try.prog Try.f47 (.two .leaf (.two .leaf (.two (.two .leaf (.one (.loop [(3, 3), (4, 3)] .leaf))) .leaf))) [.agg #[.int .i64 f_0, .slice f_1_p f_1_n f_1_c]] w K = fathomlaw01_Light.w f_0 f_1_p f_1_n f_1_c w K := by kernel_rfl
theorem fathomlaw01_Light.ok : fnOk Try.prog Try.f47 1 = true := by kernel_rfl
theorem fathomlaw01_Light.calls {f_0 : Int} {f_1_p : Option Addr} {f_1_n : Nat} {f_1_c : Nat} {w : World} {R : Ending → World → Prop} (h : fathomlaw01_Light.w f_0 f_1_p f_1_n f_1_c w fun v w' => R (.returned v) w') : Calls Try.prog 47 #[.agg #[.int .i64 f_0, .slice f_1_p f_1_n f_1_c]] w R :=
  calls_of mixed Try.func47 fathomlaw01_Light.ok rfl (fun K => fathomlaw01_Light.eq f_0 f_1_p f_1_n f_1_c w K) h

/-! ### fathom/lit.Same: function 48 (named slots 5) -/
def lit_Same.w (a_0 : Int) (a_1_p : Option Addr) (a_1_n : Nat) (a_1_c : Nat) (b_0 : Int) (b_1_p : Option Addr) (b_1_n : Nat) (b_1_c : Nat) (w : World) (K : Value → World → Prop) : Prop :=
  ∀ (n1 : Nat) (w2 : World), New (.cells #[.int .i64 a_0, .slice a_1_p a_1_n a_1_c] 61) w n1 w2 → 
  ∀ (n3 : Nat) (w4 : World), New (.cells #[.int .i64 b_0, .slice b_1_p b_1_n b_1_c] 61) w2 n3 w4 → 
  ∃ x5 : Int, w4.cell? ((Addr.mk n1 0 none).add 0) = some (.int .i64 x5) ∧ 
  ∃ x6 : Int, w4.cell? ((Addr.mk n3 0 none).add 0) = some (.int .i64 x6) ∧ 
  cnd (x5 == x6)
  (∃ x7_p : Option Addr, ∃ x7_n : Nat, ∃ x7_c : Nat, w4.cell? ((Addr.mk n1 0 none).add 1) = some (.slice x7_p x7_n x7_c) ∧ 
  ∃ x8_p : Option Addr, ∃ x8_n : Nat, ∃ x8_c : Nat, w4.cell? ((Addr.mk n3 0 none).add 1) = some (.slice x8_p x8_n x8_c) ∧ 
  Calls Try.prog 85 #[.slice x7_p x7_n x7_c, .slice x8_p x8_n x8_c, .func (.func 86) #[] #[]] w4 fun e w9 => ∃ r10 : Bool, e = .returned (.bool r10) ∧ 
  K (.bool r10) w9)
  (K (.bool false) w4)
theorem lit_Same.eq (a_0 : Int) (a_1_p : Option Addr) (a_1_n : Nat) (a_1_c : Nat) (b_0 : Int) (b_1_p : Option Addr) (b_1_n : Nat) (b_1_c : Nat) (w : World) (K : Value → World → Prop) : wpF Try.prog Try.f48 .leaf [.agg #[.int .i64 a_0, .slice a_1_p a_1_n a_1_c], .agg #[.int .i64 b_0, .slice b_1_p b_1_n b_1_c]] w K = lit_Same.w a_0 a_1_p a_1_n a_1_c b_0 b_1_p b_1_n b_1_c w K := by kernel_rfl
theorem lit_Same.ok : fnOk Try.prog Try.f48 2 = true := by kernel_rfl
theorem lit_Same.calls {a_0 : Int} {a_1_p : Option Addr} {a_1_n : Nat} {a_1_c : Nat} {b_0 : Int} {b_1_p : Option Addr} {b_1_n : Nat} {b_1_c : Nat} {w : World} {R : Ending → World → Prop} (h : lit_Same.w a_0 a_1_p a_1_n a_1_c b_0 b_1_p b_1_n b_1_c w fun v w' => R (.returned v) w') : Calls Try.prog 48 #[.agg #[.int .i64 a_0, .slice a_1_p a_1_n a_1_c], .agg #[.int .i64 b_0, .slice b_1_p b_1_n b_1_c]] w R :=
  calls_of mixed Try.func48 lit_Same.ok rfl (fun K => lit_Same.eq a_0 a_1_p a_1_n a_1_c b_0 b_1_p b_1_n b_1_c w K) h

/-! ### fathom/fathomref01.Same: function 49 (named slots 5) -/
def fathomref01_Same.w (a_0 : Int) (a_1_p : Option Addr) (a_1_n : Nat) (a_1_c : Nat) (b_0 : Int) (b_1_p : Option Addr) (b_1_n : Nat) (b_1_c : Nat) (w : World) (K : Value → World → Prop) : Prop :=
  ∀ (n1 : Nat) (w2 : World), New (.cells #[.int .i64 a_0, .slice a_1_p a_1_n a_1_c] 61) w n1 w2 → 
  ∀ (n3 : Nat) (w4 : World), New (.cells #[.int .i64 b_0, .slice b_1_p b_1_n b_1_c] 61) w2 n3 w4 → 
  ∃ x5 : Int, w4.cell? ((Addr.mk n1 0 none).add 0) = some (.int .i64 x5) ∧ 
  ∃ x6 : Int, w4.cell? ((Addr.mk n3 0 none).add 0) = some (.int .i64 x6) ∧ 
  cnd (x5 == x6)
  (∃ x7_p : Option Addr, ∃ x7_n : Nat, ∃ x7_c : Nat, w4.cell? ((Addr.mk n1 0 none).add 1) = some (.slice x7_p x7_n x7_c) ∧ 
  ∃ x8_p : Option Addr, ∃ x8_n : Nat, ∃ x8_c : Nat, w4.cell? ((Addr.mk n3 0 none).add 1) = some (.slice x8_p x8_n x8_c) ∧ 
  Calls Try.prog 88 #[.slice x7_p x7_n x7_c, .slice x8_p x8_n x8_c] w4 fun e w9 => ∃ r10 : Bool, e = .returned (.bool r10) ∧ 
  K (.bool r10) w9)
  (K (.bool false) w4)
theorem fathomref01_Same.eq (a_0 : Int) (a_1_p : Option Addr) (a_1_n : Nat) (a_1_c : Nat) (b_0 : Int) (b_1_p : Option Addr) (b_1_n : Nat) (b_1_c : Nat) (w : World) (K : Value → World → Prop) : wpF Try.prog Try.f49 .leaf [.agg #[.int .i64 a_0, .slice a_1_p a_1_n a_1_c], .agg #[.int .i64 b_0, .slice b_1_p b_1_n b_1_c]] w K = fathomref01_Same.w a_0 a_1_p a_1_n a_1_c b_0 b_1_p b_1_n b_1_c w K := by kernel_rfl
theorem fathomref01_Same.ok : fnOk Try.prog Try.f49 2 = true := by kernel_rfl
theorem fathomref01_Same.calls {a_0 : Int} {a_1_p : Option Addr} {a_1_n : Nat} {a_1_c : Nat} {b_0 : Int} {b_1_p : Option Addr} {b_1_n : Nat} {b_1_c : Nat} {w : World} {R : Ending → World → Prop} (h : fathomref01_Same.w a_0 a_1_p a_1_n a_1_c b_0 b_1_p b_1_n b_1_c w fun v w' => R (.returned v) w') : Calls Try.prog 49 #[.agg #[.int .i64 a_0, .slice a_1_p a_1_n a_1_c], .agg #[.int .i64 b_0, .slice b_1_p b_1_n b_1_c]] w R :=
  calls_of mixed Try.func49 fathomref01_Same.ok rfl (fun K => fathomref01_Same.eq a_0 a_1_p a_1_n a_1_c b_0 b_1_p b_1_n b_1_c w K) h

/-! ### fathom/fathomref01.Cnf: function 50 (named slots 5) -/
def fathomref01_Cnf.w (f_0 : Int) (f_1_p : Option Addr) (f_1_n : Nat) (f_1_c : Nat) (w : World) (K : Value → World → Prop) : Prop :=
  ∀ (n1 : Nat) (w2 : World), New (.cells #[.int .i64 f_0, .slice f_1_p f_1_n f_1_c] 61) w n1 w2 → 
  ∃ x3 : Int, w2.cell? ((Addr.mk n1 0 none).add 0) = some (.int .i64 x3) ∧ 
  cnd (decide (x3 < (0 : Int)))
  (K (.bool false) w2)
  (∃ x4 : Int, w2.cell? ((Addr.mk n1 0 none).add 0) = some (.int .i64 x4) ∧ 
  cnd (decide (x4 > (1048576 : Int)))
  (K (.bool false) w2)
  (∃ x5_p : Option Addr, ∃ x5_n : Nat, ∃ x5_c : Nat, w2.cell? ((Addr.mk n1 0 none).add 1) = some (.slice x5_p x5_n x5_c) ∧ 
  cnd (decide ((x5_n : Int) > (262144 : Int)))
  (K (.bool false) w2)
  (∃ I6 : Int → World → Nat → Prop, (∃ k7, I6 0 w2 k7) ∧
    ∀ (i_9 : Int) (w10 : World) (k7 : Nat) (_ : Fr), I6 i_9 w10 k7 →
    ∃ x11_p : Option Addr, ∃ x11_n : Nat, ∃ x11_c : Nat, w10.cell? ((Addr.mk n1 0 none).add 1) = some (.slice x11_p x11_n x11_c) ∧ 
      cnd (decide (i_9 < (x11_n : Int)))
      (∃ x12_p : Option Addr, ∃ x12_n : Nat, ∃ x12_c : Nat, w10.cell? ((Addr.mk n1 0 none).add 1) = some (.slice x12_p x12_n x12_c) ∧ 
        ixK x12_p x12_n i_9 1 fun a13 =>
        ∃ x14_p : Option Addr, ∃ x14_n : Nat, ∃ x14_c : Nat, w10.cell? a13 = some (.slice x14_p x14_n x14_c) ∧ 
        Calls Try.prog 29 #[.slice x14_p x14_n x14_c] w10 fun e w15 => ∃ r16 : Bool, e = .returned (.bool r16) ∧ 
        cnd (!r16)
        (K (.bool false) w15)
        (∃ I17 : Int → World → Nat → Prop, (∃ k18, I17 0 w15 k18) ∧
          ∀ (k_20 : Int) (w21 : World) (k18 : Nat) (_ : Fr), I17 k_20 w21 k18 →
          ∃ x22_p : Option Addr, ∃ x22_n : Nat, ∃ x22_c : Nat, w21.cell? ((Addr.mk n1 0 none).add 1) = some (.slice x22_p x22_n x22_c) ∧ 
            ixK x22_p x22_n i_9 1 fun a23 =>
            ∃ x24_p : Option Addr, ∃ x24_n : Nat, ∃ x24_c : Nat, w21.cell? a23 = some (.slice x24_p x24_n x24_c) ∧ 
            cnd (decide (k_20 < (x24_n : Int)))
            (∃ x25_p : Option Addr, ∃ x25_n : Nat, ∃ x25_c : Nat, w21.drew.cell? ((Addr.mk n1 0 none).add 1) = some (.slice x25_p x25_n x25_c) ∧ 
              ixK x25_p x25_n i_9 1 fun a26 =>
              ∃ x27_p : Option Addr, ∃ x27_n : Nat, ∃ x27_c : Nat, w21.drew.cell? a26 = some (.slice x27_p x27_n x27_c) ∧ 
              ixK x27_p x27_n k_20 1 fun a28 =>
              ∃ x29 : Int, w21.drew.cell? a28 = some (.int .i64 x29) ∧ 
              (Calls Try.prog 77 #[.int .i64 x29] w21.drew fun e w30 => ∃ r31 : Int, e = .returned (.int .i64 r31) ∧ 
              ∃ x32 : Int, w30.cell? ((Addr.mk n1 0 none).add 0) = some (.int .i64 x32) ∧ 
              cnd (decide (r31 > x32))
              (K (.bool false) w30)
              (∃ k19, k19 < k18 ∧ I17 (IntKind.i64.wrap (k_20 + (1 : Int))) w30 k19)) ∧
            (∃ x33 : Int, w21.drew.cell? ((Addr.mk n1 0 none).add 0) = some (.int .i64 x33) ∧ 
              Calls Try.prog 77 #[.int .i64 x29] w21.drew fun e w34 => ∃ r35 : Int, e = .returned (.int .i64 r35) ∧ 
              cnd (decide (r35 > x33))
              (K (.bool false) w34)
              (∃ k19, k19 < k18 ∧ I17 (IntKind.i64.wrap (k_20 + (1 : Int))) w34 k19)))
            (∃ k8, k8 < k7 ∧ I6 (IntKind.i64.wrap (i_9 + (1 : Int))) w21 k8)))
      (K (.bool true) w10))))
theorem fathomref01_Cnf.eq (f_0 : Int) (f_1_p : Option Addr) (f_1_n : Nat) (f_1_c : Nat) (w : World) (K : Value → World → Prop) : wpF Try.prog Try.f50 (.two .leaf (.two .leaf (.two (.two .leaf (.one (.loop [(3, 3)] (.two .leaf (.two (.one (.two .leaf (.two .leaf (.one (.loop [(4, 3)] .leaf))))) .leaf))))) .leaf))) [.agg #[.int .i64 f_0, .slice f_1_p f_1_n f_1_c]] w K = fathomref01_Cnf.w f_0 f_1_p f_1_n f_1_c w K := by kernel_rfl
theorem fathomref01_Cnf.ok : fnOk Try.prog Try.f50 1 = true := by kernel_rfl
theorem fathomref01_Cnf.calls {f_0 : Int} {f_1_p : Option Addr} {f_1_n : Nat} {f_1_c : Nat} {w : World} {R : Ending → World → Prop} (h : fathomref01_Cnf.w f_0 f_1_p f_1_n f_1_c w fun v w' => R (.returned v) w') : Calls Try.prog 50 #[.agg #[.int .i64 f_0, .slice f_1_p f_1_n f_1_c]] w R :=
  calls_of mixed Try.func50 fathomref01_Cnf.ok rfl (fun K => fathomref01_Cnf.eq f_0 f_1_p f_1_n f_1_c w K) h

/-! ### fathom/lit.CheckCnf: function 51 (named slots 5) -/
def lit_CheckCnf.w (f_0 : Int) (f_1_p : Option Addr) (f_1_n : Nat) (f_1_c : Nat) (w : World) (K : Value → World → Prop) : Prop :=
  ∀ (n1 : Nat) (w2 : World), New (.cells #[.int .i64 f_0, .slice f_1_p f_1_n f_1_c] 61) w n1 w2 → 
  ∃ x3 : Int, w2.cell? ((Addr.mk n1 0 none).add 0) = some (.int .i64 x3) ∧ 
  cnd (decide (x3 < (0 : Int)))
  (K (.int .i64 1) w2)
  (∃ x4 : Int, w2.cell? ((Addr.mk n1 0 none).add 0) = some (.int .i64 x4) ∧ 
  cnd (decide (x4 > (1048576 : Int)))
  (K (.int .i64 1) w2)
  (∃ x5_p : Option Addr, ∃ x5_n : Nat, ∃ x5_c : Nat, w2.cell? ((Addr.mk n1 0 none).add 1) = some (.slice x5_p x5_n x5_c) ∧ 
  cnd (decide ((x5_n : Int) > (262144 : Int)))
  (K (.int .i64 1) w2)
  (∃ x6_p : Option Addr, ∃ x6_n : Nat, ∃ x6_c : Nat, w2.cell? ((Addr.mk n1 0 none).add 1) = some (.slice x6_p x6_n x6_c) ∧ 
    ∃ I7 : Int → World → Nat → Prop, (∃ k8, I7 0 w2 k8) ∧
    ∀ (v10 : Int) (w11 : World) (k8 : Nat) (_ : Fr), I7 v10 w11 k8 →
    cnd (decide (v10 < (x6_n : Int)))
      (ixK x6_p x6_n v10 1 fun a12 =>
        ∃ x13_p : Option Addr, ∃ x13_n : Nat, ∃ x13_c : Nat, w11.cell? a12 = some (.slice x13_p x13_n x13_c) ∧ 
        Calls Try.prog 30 #[.slice x13_p x13_n x13_c] w11 fun e w14 => ∃ r15 : Int, e = .returned (.int .i64 r15) ∧ 
        cnd (r15 != (0 : Int))
        (K (.int .i64 1) w14)
        (Calls Try.prog 70 #[.slice x13_p x13_n x13_c, .func (.func 89) #[] #[.pointer (some (Addr.mk n1 0 none))]] w14 fun e w16 => ∃ r17 : Bool, e = .returned (.bool r17) ∧ 
        cnd r17
        (K (.int .i64 1) w16)
        (∃ k9, k9 < k8 ∧ I7 (IntKind.i64.wrap (v10 + (1 : Int))) w16 k9)))
      (K (.int .i64 0) w11))))
theorem lit_CheckCnf.eq (f_0 : Int) (f_1_p : Option Addr) (f_1_n : Nat) (f_1_c : Nat) (w : World) (K : Value → World → Prop) : wpF Try.prog Try.f51 (.two .leaf (.two .leaf (.two (.two .leaf (.one (.loop [(22, 3)] .leaf))) .leaf))) [.agg #[.int .i64 f_0, .slice f_1_p f_1_n f_1_c]] w K = lit_CheckCnf.w f_0 f_1_p f_1_n f_1_c w K := by kernel_rfl
theorem lit_CheckCnf.ok : fnOk Try.prog Try.f51 1 = true := by kernel_rfl
theorem lit_CheckCnf.calls {f_0 : Int} {f_1_p : Option Addr} {f_1_n : Nat} {f_1_c : Nat} {w : World} {R : Ending → World → Prop} (h : lit_CheckCnf.w f_0 f_1_p f_1_n f_1_c w fun v w' => R (.returned v) w') : Calls Try.prog 51 #[.agg #[.int .i64 f_0, .slice f_1_p f_1_n f_1_c]] w R :=
  calls_of mixed Try.func51 lit_CheckCnf.ok rfl (fun K => lit_CheckCnf.eq f_0 f_1_p f_1_n f_1_c w K) h

/-! ### fathom/lit.Holds: function 52 (named slots 9) -/
def lit_Holds.w (f_0 : Int) (f_1_p : Option Addr) (f_1_n : Nat) (f_1_c : Nat) (m__p : Option Addr) (m__n : Nat) (m__c : Nat) (w : World) (K : Value → World → Prop) : Prop :=
  ∀ (n1 : Nat) (w2 : World), New (.cells #[.int .i64 f_0, .slice f_1_p f_1_n f_1_c] 61) w n1 w2 → 
  ∃ x3 : Int, ∃ x4_p : Option Addr, ∃ x4_n : Nat, ∃ x4_c : Nat, CellsAt w2 (Addr.mk n1 0 none) 0 [.int .i64 x3, .slice x4_p x4_n x4_c] ∧ 
  Calls Try.prog 51 #[.agg #[.int .i64 x3, .slice x4_p x4_n x4_c]] w2 fun e w5 => ∃ r6 : Int, e = .returned (.int .i64 r6) ∧ 
  cnd (r6 != (0 : Int))
  (K (.bool false) w5)
  (∃ x7_p : Option Addr, ∃ x7_n : Nat, ∃ x7_c : Nat, w5.cell? ((Addr.mk n1 0 none).add 1) = some (.slice x7_p x7_n x7_c) ∧ 
    ∃ I8 : Int → World → Nat → Prop, (∃ k9, I8 0 w5 k9) ∧
    ∀ (v11 : Int) (w12 : World) (k9 : Nat) (_ : Fr), I8 v11 w12 k9 →
    cnd (decide (v11 < (x7_n : Int)))
      (ixK x7_p x7_n v11 1 fun a13 =>
        ∃ x14_p : Option Addr, ∃ x14_n : Nat, ∃ x14_c : Nat, w12.cell? a13 = some (.slice x14_p x14_n x14_c) ∧ 
        ∃ I15 : Int → World → Nat → Prop, (∃ k16, I15 0 w12 k16) ∧
        ∀ (v18 : Int) (w19 : World) (k16 : Nat) (_ : Fr), I15 v18 w19 k16 →
        cnd (decide (v18 < (x14_n : Int)))
          (ixK x14_p x14_n v18 1 fun a20 =>
            ∃ x21 : Int, w19.cell? a20 = some (.int .i64 x21) ∧ 
            Calls Try.prog 35 #[.slice m__p m__n m__c, .int .i64 x21] w19 fun e w22 => ∃ r23 : Int, e = .returned (.int .i64 r23) ∧ 
            cnd (decide (r23 > (0 : Int)))
            (∃ k10, k10 < k9 ∧ I8 (IntKind.i64.wrap (v11 + (1 : Int))) w22 k10)
            (∃ k17, k17 < k16 ∧ I15 (IntKind.i64.wrap (v18 + (1 : Int))) w22 k17))
          (K (.bool false) w19))
      (K (.bool true) w12))
theorem lit_Holds.eq (f_0 : Int) (f_1_p : Option Addr) (f_1_n : Nat) (f_1_c : Nat) (m__p : Option Addr) (m__n : Nat) (m__c : Nat) (w : World) (K : Value → World → Prop) : wpF Try.prog Try.f52 (.two .leaf (.one (.two .leaf (.two .leaf (.two (.two .leaf (.one (.loop [(15, 3)] (.two .leaf (.two .leaf (.two (.one (.two .leaf (.two (.two .leaf (.one (.loop [(21, 3)] .leaf))) .leaf))) .leaf)))))) .leaf))))) [.agg #[.int .i64 f_0, .slice f_1_p f_1_n f_1_c], .slice m__p m__n m__c] w K = lit_Holds.w f_0 f_1_p f_1_n f_1_c m__p m__n m__c w K := by kernel_rfl
theorem lit_Holds.ok : fnOk Try.prog Try.f52 2 = true := by kernel_rfl
theorem lit_Holds.calls {f_0 : Int} {f_1_p : Option Addr} {f_1_n : Nat} {f_1_c : Nat} {m__p : Option Addr} {m__n : Nat} {m__c : Nat} {w : World} {R : Ending → World → Prop} (h : lit_Holds.w f_0 f_1_p f_1_n f_1_c m__p m__n m__c w fun v w' => R (.returned v) w') : Calls Try.prog 52 #[.agg #[.int .i64 f_0, .slice f_1_p f_1_n f_1_c], .slice m__p m__n m__c] w R :=
  calls_of mixed Try.func52 lit_Holds.ok rfl (fun K => lit_Holds.eq f_0 f_1_p f_1_n f_1_c m__p m__n m__c w K) h

/-! ### fathom/fathomref01.Holds: function 53 (named slots 6) -/
def fathomref01_Holds.w (f_0 : Int) (f_1_p : Option Addr) (f_1_n : Nat) (f_1_c : Nat) (m__p : Option Addr) (m__n : Nat) (m__c : Nat) (w : World) (K : Value → World → Prop) : Prop :=
  ∀ (n1 : Nat) (w2 : World), New (.cells #[.int .i64 f_0, .slice f_1_p f_1_n f_1_c] 61) w n1 w2 → 
  ∃ I3 : Int → World → Nat → Prop, (∃ k4, I3 0 w2 k4) ∧
  ∀ (i_6 : Int) (w7 : World) (k4 : Nat) (_ : Fr), I3 i_6 w7 k4 →
  ∃ x8_p : Option Addr, ∃ x8_n : Nat, ∃ x8_c : Nat, w7.cell? ((Addr.mk n1 0 none).add 1) = some (.slice x8_p x8_n x8_c) ∧ 
    cnd (decide (i_6 < (x8_n : Int)))
    (∃ x9_p : Option Addr, ∃ x9_n : Nat, ∃ x9_c : Nat, w7.cell? ((Addr.mk n1 0 none).add 1) = some (.slice x9_p x9_n x9_c) ∧ 
      ixK x9_p x9_n i_6 1 fun a10 =>
      ∃ x11_p : Option Addr, ∃ x11_n : Nat, ∃ x11_c : Nat, w7.cell? a10 = some (.slice x11_p x11_n x11_c) ∧ 
      Calls Try.prog 38 #[.slice m__p m__n m__c, .slice x11_p x11_n x11_c] w7 fun e w12 => ∃ r13 : Int, e = .returned (.int .i64 r13) ∧ 
      cnd (r13 != (1 : Int))
      (K (.bool false) w12)
      (∃ k5, k5 < k4 ∧ I3 (IntKind.i64.wrap (i_6 + (1 : Int))) w12 k5))
    (K (.bool true) w7)
theorem fathomref01_Holds.eq (f_0 : Int) (f_1_p : Option Addr) (f_1_n : Nat) (f_1_c : Nat) (m__p : Option Addr) (m__n : Nat) (m__c : Nat) (w : World) (K : Value → World → Prop) : wpF Try.prog Try.f53 (.two .leaf (.two (.two .leaf (.one (.loop [(5, 3)] .leaf))) .leaf)) [.agg #[.int .i64 f_0, .slice f_1_p f_1_n f_1_c], .slice m__p m__n m__c] w K = fathomref01_Holds.w f_0 f_1_p f_1_n f_1_c m__p m__n m__c w K := by kernel_rfl
theorem fathomref01_Holds.ok : fnOk Try.prog Try.f53 2 = true := by kernel_rfl
theorem fathomref01_Holds.calls {f_0 : Int} {f_1_p : Option Addr} {f_1_n : Nat} {f_1_c : Nat} {m__p : Option Addr} {m__n : Nat} {m__c : Nat} {w : World} {R : Ending → World → Prop} (h : fathomref01_Holds.w f_0 f_1_p f_1_n f_1_c m__p m__n m__c w fun v w' => R (.returned v) w') : Calls Try.prog 53 #[.agg #[.int .i64 f_0, .slice f_1_p f_1_n f_1_c], .slice m__p m__n m__c] w R :=
  calls_of mixed Try.func53 fathomref01_Holds.ok rfl (fun K => fathomref01_Holds.eq f_0 f_1_p f_1_n f_1_c m__p m__n m__c w K) h

/-! ### fathom/fathomref01.Lit: function 55 (named slots 3) -/
def fathomref01_Lit.w (l_ : Int) (w : World) (K : Value → World → Prop) : Prop :=
  cnd (l_ != (0 : Int))
  (cnd (decide (l_ ≥ (-1048576)))
  (K (.bool (decide (l_ ≤ (1048576 : Int)))) w)
  (K (.bool false) w))
  (K (.bool false) w)
theorem fathomref01_Lit.eq (l_ : Int) (w : World) (K : Value → World → Prop) : wpF Try.prog Try.f55 .leaf [.int .i64 l_] w K = fathomref01_Lit.w l_ w K := by kernel_rfl
theorem fathomref01_Lit.ok : fnOk Try.prog Try.f55 1 = true := by kernel_rfl
theorem fathomref01_Lit.calls {l_ : Int} {w : World} {R : Ending → World → Prop} (h : fathomref01_Lit.w l_ w fun v w' => R (.returned v) w') : Calls Try.prog 55 #[.int .i64 l_] w R :=
  calls_of mixed Try.func55 fathomref01_Lit.ok rfl (fun K => fathomref01_Lit.eq l_ w K) h

/-! ### fathom/fathomref12.Learn: function 57 (named slots 12) -/
def fathomref12_Learn.w (trail__p : Option Addr) (trail__n : Nat) (trail__c : Nat) (broken__p : Option Addr) (broken__n : Nat) (broken__c : Nat) (w : World) (K : Value → World → Prop) : Prop :=
  Calls Try.prog 32 #[.slice broken__p broken__n broken__c] w fun e w1 => ∃ r2_p : Option Addr, ∃ r2_n : Nat, ∃ r2_c : Nat, e = .returned (.slice r2_p r2_n r2_c) ∧ 
  ∃ I3 : Int → Int → World → Nat → Prop, (∃ k4, I3 0 0 w1 k4) ∧
  ∀ (level_6 : Int) (i_7 : Int) (w8 : World) (k4 : Nat) (_ : Fr), I3 level_6 i_7 w8 k4 →
  cnd (decide (i_7 < (r2_n : Int)))
    (ixK r2_p r2_n i_7 1 fun a9 =>
      ∃ x10 : Int, w8.cell? a9 = some (.int .i64 x10) ∧ 
      Calls Try.prog 61 #[.slice trail__p trail__n trail__c, .int .i64 x10] w8 fun e w11 => ∃ r12 : Int, e = .returned (.int .i64 r12) ∧ 
      cnd (decide (r12 > level_6))
      (ixK r2_p r2_n i_7 1 fun a13 =>
        ∃ x14 : Int, w11.cell? a13 = some (.int .i64 x14) ∧ 
        Calls Try.prog 61 #[.slice trail__p trail__n trail__c, .int .i64 x14] w11 fun e w15 => ∃ r16 : Int, e = .returned (.int .i64 r16) ∧ 
        ∃ k5, k5 < k4 ∧ I3 r16 (IntKind.i64.wrap (i_7 + (1 : Int))) w15 k5)
      (∃ k5, k5 < k4 ∧ I3 level_6 (IntKind.i64.wrap (i_7 + (1 : Int))) w11 k5))
    (∃ I17 : Option Addr → Nat → Nat → Int → World → Nat → Prop, (∃ k18, I17 r2_p r2_n r2_c (IntKind.i64.wrap ((trail__n : Int) - (1 : Int))) w8 k18) ∧
      ∀ (in_20_p : Option Addr) (in_20_n : Nat) (in_20_c : Nat) (i_21 : Int) (w22 : World) (k18 : Nat) (_ : Fr), I17 in_20_p in_20_n in_20_c i_21 w22 k18 →
      cnd (decide (i_21 ≥ (0 : Int)))
        (∃ I23 : Int → Int → World → Nat → Prop, (∃ k24, I23 0 0 w22 k24) ∧
          ∀ (n_26 : Int) (k_27 : Int) (w28 : World) (k24 : Nat) (_ : Fr), I23 n_26 k_27 w28 k24 →
          cnd (decide (k_27 < (in_20_n : Int)))
            (ixK in_20_p in_20_n k_27 1 fun a29 =>
              ∃ x30 : Int, w28.cell? a29 = some (.int .i64 x30) ∧ 
              Calls Try.prog 61 #[.slice trail__p trail__n trail__c, .int .i64 x30] w28 fun e w31 => ∃ r32 : Int, e = .returned (.int .i64 r32) ∧ 
              cnd (r32 == level_6)
              (∃ k25, k25 < k24 ∧ I23 (IntKind.i64.wrap (n_26 + (1 : Int))) (IntKind.i64.wrap (k_27 + (1 : Int))) w31 k25)
              (∃ k25, k25 < k24 ∧ I23 n_26 (IntKind.i64.wrap (k_27 + (1 : Int))) w31 k25))
            (cnd (n_26 == (0 : Int))
              (Calls Try.prog 92 #[.slice trail__p trail__n trail__c, .slice in_20_p in_20_n in_20_c] w28 fun e w33 => ∃ r34_p : Option Addr, ∃ r34_n : Nat, ∃ r34_c : Nat, e = .returned (.slice r34_p r34_n r34_c) ∧ 
              K (.slice r34_p r34_n r34_c) w33)
              (cnd (n_26 == (1 : Int))
              (cnd (decide (level_6 > (0 : Int)))
              (Calls Try.prog 92 #[.slice trail__p trail__n trail__c, .slice in_20_p in_20_n in_20_c] w28 fun e w35 => ∃ r36_p : Option Addr, ∃ r36_n : Nat, ∃ r36_c : Nat, e = .returned (.slice r36_p r36_n r36_c) ∧ 
                K (.slice r36_p r36_n r36_c) w35)
              (ixK trail__p trail__n i_21 3 fun a37 =>
                ∃ x38 : Int, ∃ x39 : Int, ∃ x40_p : Option Addr, ∃ x40_n : Nat, ∃ x40_c : Nat, CellsAt w28 a37 0 [.int .i64 x38, .int .i64 x39, .slice x40_p x40_n x40_c] ∧ 
                ∀ (n41 : Nat) (w42 : World), New (.cells #[.int .i64 0, .int .i64 0, .slice none 0 0] 73) w28 n41 w42 → 
                ∃ w43 : World, StoreAt (Addr.mk n41 0 none) 0 [.int .i64 x38, .int .i64 x39, .slice x40_p x40_n x40_c] w42 w43 ∧ 
                ∃ x44 : Int, w43.cell? ((Addr.mk n41 0 none).add 1) = some (.int .i64 x44) ∧ 
                cnd (x44 == level_6)
                (∃ x45 : Int, w43.cell? ((Addr.mk n41 0 none).add 0) = some (.int .i64 x45) ∧ 
                Calls Try.prog 40 #[.slice in_20_p in_20_n in_20_c, .int .i64 (IntKind.i64.wrap (0 - x45))] w43 fun e w46 => ∃ r47 : Bool, e = .returned (.bool r47) ∧ 
                cnd r47
                (∃ x48 : Int, w46.drew.cell? ((Addr.mk n41 0 none).add 0) = some (.int .i64 x48) ∧ 
                  (Calls Try.prog 41 #[.slice in_20_p in_20_n in_20_c, .int .i64 (IntKind.i64.wrap (0 - x48))] w46.drew fun e w49 => ∃ r50_p : Option Addr, ∃ r50_n : Nat, ∃ r50_c : Nat, e = .returned (.slice r50_p r50_n r50_c) ∧ 
                  ∃ x51_p : Option Addr, ∃ x51_n : Nat, ∃ x51_c : Nat, w49.cell? ((Addr.mk n41 0 none).add 2) = some (.slice x51_p x51_n x51_c) ∧ 
                  ∃ x52 : Int, w49.cell? ((Addr.mk n41 0 none).add 0) = some (.int .i64 x52) ∧ 
                  Calls Try.prog 41 #[.slice x51_p x51_n x51_c, .int .i64 x52] w49 fun e w53 => ∃ r54_p : Option Addr, ∃ r54_n : Nat, ∃ r54_c : Nat, e = .returned (.slice r54_p r54_n r54_c) ∧ 
                  ∃ w55 : World, ∃ r56_p : Option Addr, ∃ r56_n : Nat, ∃ r56_c : Nat, (Builtin.append_ #[26, 26] 26 #[.slice r50_p r50_n r50_c, .slice r54_p r54_n r54_c]).run Try.prog w53 = .ok (.slice r56_p r56_n r56_c) w55 ∧ 
                  Calls Try.prog 32 #[.slice r56_p r56_n r56_c] w55 fun e w57 => ∃ r58_p : Option Addr, ∃ r58_n : Nat, ∃ r58_c : Nat, e = .returned (.slice r58_p r58_n r58_c) ∧ 
                  ∃ k19, k19 < k18 ∧ I17 r58_p r58_n r58_c (IntKind.i64.wrap (i_21 - (1 : Int))) w57 k19) ∧
                (∃ x59_p : Option Addr, ∃ x59_n : Nat, ∃ x59_c : Nat, w46.drew.cell? ((Addr.mk n41 0 none).add 2) = some (.slice x59_p x59_n x59_c) ∧ 
                  (Calls Try.prog 41 #[.slice in_20_p in_20_n in_20_c, .int .i64 (IntKind.i64.wrap (0 - x48))] w46.drew fun e w60 => ∃ r61_p : Option Addr, ∃ r61_n : Nat, ∃ r61_c : Nat, e = .returned (.slice r61_p r61_n r61_c) ∧ 
                  ∃ x62 : Int, w60.cell? ((Addr.mk n41 0 none).add 0) = some (.int .i64 x62) ∧ 
                  Calls Try.prog 41 #[.slice x59_p x59_n x59_c, .int .i64 x62] w60 fun e w63 => ∃ r64_p : Option Addr, ∃ r64_n : Nat, ∃ r64_c : Nat, e = .returned (.slice r64_p r64_n r64_c) ∧ 
                  ∃ w65 : World, ∃ r66_p : Option Addr, ∃ r66_n : Nat, ∃ r66_c : Nat, (Builtin.append_ #[26, 26] 26 #[.slice r61_p r61_n r61_c, .slice r64_p r64_n r64_c]).run Try.prog w63 = .ok (.slice r66_p r66_n r66_c) w65 ∧ 
                  Calls Try.prog 32 #[.slice r66_p r66_n r66_c] w65 fun e w67 => ∃ r68_p : Option Addr, ∃ r68_n : Nat, ∃ r68_c : Nat, e = .returned (.slice r68_p r68_n r68_c) ∧ 
                  ∃ k19, k19 < k18 ∧ I17 r68_p r68_n r68_c (IntKind.i64.wrap (i_21 - (1 : Int))) w67 k19) ∧
                (∃ x69 : Int, w46.drew.cell? ((Addr.mk n41 0 none).add 0) = some (.int .i64 x69) ∧ 
                  Calls Try.prog 41 #[.slice in_20_p in_20_n in_20_c, .int .i64 (IntKind.i64.wrap (0 - x48))] w46.drew fun e w70 => ∃ r71_p : Option Addr, ∃ r71_n : Nat, ∃ r71_c : Nat, e = .returned (.slice r71_p r71_n r71_c) ∧ 
                  Calls Try.prog 41 #[.slice x59_p x59_n x59_c, .int .i64 x69] w70 fun e w72 => ∃ r73_p : Option Addr, ∃ r73_n : Nat, ∃ r73_c : Nat, e = .returned (.slice r73_p r73_n r73_c) ∧ 
                  ∃ w74 : World, ∃ r75_p : Option Addr, ∃ r75_n : Nat, ∃ r75_c : Nat, (Builtin.append_ #[26, 26] 26 #[.slice r71_p r71_n r71_c, .slice r73_p r73_n r73_c]).run Try.prog w72 = .ok (.slice r75_p r75_n r75_c) w74 ∧ 
                  Calls Try.prog 32 #[.slice r75_p r75_n r75_c] w74 fun e w76 => ∃ r77_p : Option Addr, ∃ r77_n : Nat, ∃ r77_c : Nat, e = .returned (.slice r77_p r77_n r77_c) ∧ 
                  ∃ k19, k19 < k18 ∧ I17 r77_p r77_n r77_c (IntKind.i64.wrap (i_21 - (1 : Int))) w76 k19)) ∧
                (∃ x78 : Int, w46.drew.cell? ((Addr.mk n41 0 none).add 0) = some (.int .i64 x78) ∧ 
                  (Calls Try.prog 41 #[.slice in_20_p in_20_n in_20_c, .int .i64 (IntKind.i64.wrap (0 - x48))] w46.drew fun e w79 => ∃ r80_p : Option Addr, ∃ r80_n : Nat, ∃ r80_c : Nat, e = .returned (.slice r80_p r80_n r80_c) ∧ 
                  ∃ x81_p : Option Addr, ∃ x81_n : Nat, ∃ x81_c : Nat, w79.cell? ((Addr.mk n41 0 none).add 2) = some (.slice x81_p x81_n x81_c) ∧ 
                  Calls Try.prog 41 #[.slice x81_p x81_n x81_c, .int .i64 x78] w79 fun e w82 => ∃ r83_p : Option Addr, ∃ r83_n : Nat, ∃ r83_c : Nat, e = .returned (.slice r83_p r83_n r83_c) ∧ 
                  ∃ w84 : World, ∃ r85_p : Option Addr, ∃ r85_n : Nat, ∃ r85_c : Nat, (Builtin.append_ #[26, 26] 26 #[.slice r80_p r80_n r80_c, .slice r83_p r83_n r83_c]).run Try.prog w82 = .ok (.slice r85_p r85_n r85_c) w84 ∧ 
                  Calls Try.prog 32 #[.slice r85_p r85_n r85_c] w84 fun e w86 => ∃ r87_p : Option Addr, ∃ r87_n : Nat, ∃ r87_c : Nat, e = .returned (.slice r87_p r87_n r87_c) ∧ 
                  ∃ k19, k19 < k18 ∧ I17 r87_p r87_n r87_c (IntKind.i64.wrap (i_21 - (1 : Int))) w86 k19) ∧
                (∃ x88_p : Option Addr, ∃ x88_n : Nat, ∃ x88_c : Nat, w46.drew.cell? ((Addr.mk n41 0 none).add 2) = some (.slice x88_p x88_n x88_c) ∧ 
                  Calls Try.prog 41 #[.slice in_20_p in_20_n in_20_c, .int .i64 (IntKind.i64.wrap (0 - x48))] w46.drew fun e w89 => ∃ r90_p : Option Addr, ∃ r90_n : Nat, ∃ r90_c : Nat, e = .returned (.slice r90_p r90_n r90_c) ∧ 
                  Calls Try.prog 41 #[.slice x88_p x88_n x88_c, .int .i64 x78] w89 fun e w91 => ∃ r92_p : Option Addr, ∃ r92_n : Nat, ∃ r92_c : Nat, e = .returned (.slice r92_p r92_n r92_c) ∧ 
                  ∃ w93 : World, ∃ r94_p : Option Addr, ∃ r94_n : Nat, ∃ r94_c : Nat, (Builtin.append_ #[26, 26] 26 #[.slice r90_p r90_n r90_c, .slice r92_p r92_n r92_c]).run Try.prog w91 = .ok (.slice r94_p r94_n r94_c) w93 ∧ 
                  Calls Try.prog 32 #[.slice r94_p r94_n r94_c] w93 fun e w95 => ∃ r96_p : Option Addr, ∃ r96_n : Nat, ∃ r96_c : Nat, e = .returned (.slice r96_p r96_n r96_c) ∧ 
                  ∃ k19, k19 < k18 ∧ I17 r96_p r96_n r96_c (IntKind.i64.wrap (i_21 - (1 : Int))) w95 k19)))
                (∃ k19, k19 < k18 ∧ I17 in_20_p in_20_n in_20_c (IntKind.i64.wrap (i_21 - (1 : Int))) w46 k19))
                (∃ k19, k19 < k18 ∧ I17 in_20_p in_20_n in_20_c (IntKind.i64.wrap (i_21 - (1 : Int))) w43 k19)))
              (ixK trail__p trail__n i_21 3 fun a97 =>
              ∃ x98 : Int, ∃ x99 : Int, ∃ x100_p : Option Addr, ∃ x100_n : Nat, ∃ x100_c : Nat, CellsAt w28 a97 0 [.int .i64 x98, .int .i64 x99, .slice x100_p x100_n x100_c] ∧ 
              ∀ (n101 : Nat) (w102 : World), New (.cells #[.int .i64 0, .int .i64 0, .slice none 0 0] 73) w28 n101 w102 → 
              ∃ w103 : World, StoreAt (Addr.mk n101 0 none) 0 [.int .i64 x98, .int .i64 x99, .slice x100_p x100_n x100_c] w102 w103 ∧ 
              ∃ x104 : Int, w103.cell? ((Addr.mk n101 0 none).add 1) = some (.int .i64 x104) ∧ 
              cnd (x104 == level_6)
              (∃ x105 : Int, w103.cell? ((Addr.mk n101 0 none).add 0) = some (.int .i64 x105) ∧ 
              Calls Try.prog 40 #[.slice in_20_p in_20_n in_20_c, .int .i64 (IntKind.i64.wrap (0 - x105))] w103 fun e w106 => ∃ r107 : Bool, e = .returned (.bool r107) ∧ 
              cnd r107
              (∃ x108 : Int, w106.drew.cell? ((Addr.mk n101 0 none).add 0) = some (.int .i64 x108) ∧ 
                (Calls Try.prog 41 #[.slice in_20_p in_20_n in_20_c, .int .i64 (IntKind.i64.wrap (0 - x108))] w106.drew fun e w109 => ∃ r110_p : Option Addr, ∃ r110_n : Nat, ∃ r110_c : Nat, e = .returned (.slice r110_p r110_n r110_c) ∧ 
                ∃ x111_p : Option Addr, ∃ x111_n : Nat, ∃ x111_c : Nat, w109.cell? ((Addr.mk n101 0 none).add 2) = some (.slice x111_p x111_n x111_c) ∧ 
                ∃ x112 : Int, w109.cell? ((Addr.mk n101 0 none).add 0) = some (.int .i64 x112) ∧ 
                Calls Try.prog 41 #[.slice x111_p x111_n x111_c, .int .i64 x112] w109 fun e w113 => ∃ r114_p : Option Addr, ∃ r114_n : Nat, ∃ r114_c : Nat, e = .returned (.slice r114_p r114_n r114_c) ∧ 
                ∃ w115 : World, ∃ r116_p : Option Addr, ∃ r116_n : Nat, ∃ r116_c : Nat, (Builtin.append_ #[26, 26] 26 #[.slice r110_p r110_n r110_c, .slice r114_p r114_n r114_c]).run Try.prog w113 = .ok (.slice r116_p r116_n r116_c) w115 ∧ 
                Calls Try.prog 32 #[.slice r116_p r116_n r116_c] w115 fun e w117 => ∃ r118_p : Option Addr, ∃ r118_n : Nat, ∃ r118_c : Nat, e = .returned (.slice r118_p r118_n r118_c) ∧ 
                ∃ k19, k19 < k18 ∧ I17 r118_p r118_n r118_c (IntKind.i64.wrap (i_21 - (1 : Int))) w117 k19) ∧
              (∃ x119_p : Option Addr, ∃ x119_n : Nat, ∃ x119_c : Nat, w106.drew.cell? ((Addr.mk n101 0 none).add 2) = some (.slice x119_p x119_n x119_c) ∧ 
                (Calls Try.prog 41 #[.slice in_20_p in_20_n in_20_c, .int .i64 (IntKind.i64.wrap (0 - x108))] w106.drew fun e w120 => ∃ r121_p : Option Addr, ∃ r121_n : Nat, ∃ r121_c : Nat, e = .returned (.slice r121_p r121_n r121_c) ∧ 
                ∃ x122 : Int, w120.cell? ((Addr.mk n101 0 none).add 0) = some (.int .i64 x122) ∧ 
                Calls Try.prog 41 #[.slice x119_p x119_n x119_c, .int .i64 x122] w120 fun e w123 => ∃ r124_p : Option Addr, ∃ r124_n : Nat, ∃ r124_c : Nat, e = .returned (.slice r124_p r124_n r124_c) ∧ 
                ∃ w125 : World, ∃ r126_p : Option Addr, ∃ r126_n : Nat, ∃ r126_c : Nat, (Builtin.append_ #[26, 26] 26 #[.slice r121_p r121_n r121_c, .slice r124_p r124_n r124_c]).run Try.prog w123 = .ok (.slice r126_p r126_n r126_c) w125 ∧ 
                Calls Try.prog 32 #[.slice r126_p r126_n r126_c] w125 fun e w127 => ∃ r128_p : Option Addr, ∃ r128_n : Nat, ∃ r128_c : Nat, e = .returned (.slice r128_p r128_n r128_c) ∧ 
                ∃ k19, k19 < k18 ∧ I17 r128_p r128_n r128_c (IntKind.i64.wrap (i_21 - (1 : Int))) w127 k19) ∧
              (∃ x129 : Int, w106.drew.cell? ((Addr.mk n101 0 none).add 0) = some (.int .i64 x129) ∧ 
                Calls Try.prog 41 #[.slice in_20_p in_20_n in_20_c, .int .i64 (IntKind.i64.wrap (0 - x108))] w106.drew fun e w130 => ∃ r131_p : Option Addr, ∃ r131_n : Nat, ∃ r131_c : Nat, e = .returned (.slice r131_p r131_n r131_c) ∧ 
                Calls Try.prog 41 #[.slice x119_p x119_n x119_c, .int .i64 x129] w130 fun e w132 => ∃ r133_p : Option Addr, ∃ r133_n : Nat, ∃ r133_c : Nat, e = .returned (.slice r133_p r133_n r133_c) ∧ 
                ∃ w134 : World, ∃ r135_p : Option Addr, ∃ r135_n : Nat, ∃ r135_c : Nat, (Builtin.append_ #[26, 26] 26 #[.slice r131_p r131_n r131_c, .slice r133_p r133_n r133_c]).run Try.prog w132 = .ok (.slice r135_p r135_n r135_c) w134 ∧ 
                Calls Try.prog 32 #[.slice r135_p r135_n r135_c] w134 fun e w136 => ∃ r137_p : Option Addr, ∃ r137_n : Nat, ∃ r137_c : Nat, e = .returned (.slice r137_p r137_n r137_c) ∧ 
                ∃ k19, k19 < k18 ∧ I17 r137_p r137_n r137_c (IntKind.i64.wrap (i_21 - (1 : Int))) w136 k19)) ∧
              (∃ x138 : Int, w106.drew.cell? ((Addr.mk n101 0 none).add 0) = some (.int .i64 x138) ∧ 
                (Calls Try.prog 41 #[.slice in_20_p in_20_n in_20_c, .int .i64 (IntKind.i64.wrap (0 - x108))] w106.drew fun e w139 => ∃ r140_p : Option Addr, ∃ r140_n : Nat, ∃ r140_c : Nat, e = .returned (.slice r140_p r140_n r140_c) ∧ 
                ∃ x141_p : Option Addr, ∃ x141_n : Nat, ∃ x141_c : Nat, w139.cell? ((Addr.mk n101 0 none).add 2) = some (.slice x141_p x141_n x141_c) ∧ 
                Calls Try.prog 41 #[.slice x141_p x141_n x141_c, .int .i64 x138] w139 fun e w142 => ∃ r143_p : Option Addr, ∃ r143_n : Nat, ∃ r143_c : Nat, e = .returned (.slice r143_p r143_n r143_c) ∧ 
                ∃ w144 : World, ∃ r145_p : Option Addr, ∃ r145_n : Nat, ∃ r145_c : Nat, (Builtin.append_ #[26, 26] 26 #[.slice r140_p r140_n r140_c, .slice r143_p r143_n r143_c]).run Try.prog w142 = .ok (.slice r145_p r145_n r145_c) w144 ∧ 
                Calls Try.prog 32 #[.slice r145_p r145_n r145_c] w144 fun e w146 => ∃ r147_p : Option Addr, ∃ r147_n : Nat, ∃ r147_c : Nat, e = .returned (.slice r147_p r147_n r147_c) ∧ 
                ∃ k19, k19 < k18 ∧ I17 r147_p r147_n r147_c (IntKind.i64.wrap (i_21 - (1 : Int))) w146 k19) ∧
              (∃ x148_p : Option Addr, ∃ x148_n : Nat, ∃ x148_c : Nat, w106.drew.cell? ((Addr.mk n101 0 none).add 2) = some (.slice x148_p x148_n x148_c) ∧ 
                Calls Try.prog 41 #[.slice in_20_p in_20_n in_20_c, .int .i64 (IntKind.i64.wrap (0 - x108))] w106.drew fun e w149 => ∃ r150_p : Option Addr, ∃ r150_n : Nat, ∃ r150_c : Nat, e = .returned (.slice r150_p r150_n r150_c) ∧ 
                Calls Try.prog 41 #[.slice x148_p x148_n x148_c, .int .i64 x138] w149 fun e w151 => ∃ r152_p : Option Addr, ∃ r152_n : Nat, ∃ r152_c : Nat, e = .returned (.slice r152_p r152_n r152_c) ∧ 
                ∃ w153 : World, ∃ r154_p : Option Addr, ∃ r154_n : Nat, ∃ r154_c : Nat, (Builtin.append_ #[26, 26] 26 #[.slice r150_p r150_n r150_c, .slice r152_p r152_n r152_c]).run Try.prog w151 = .ok (.slice r154_p r154_n r154_c) w153 ∧ 
                Calls Try.prog 32 #[.slice r154_p r154_n r154_c] w153 fun e w155 => ∃ r156_p : Option Addr, ∃ r156_n : Nat, ∃ r156_c : Nat, e = .returned (.slice r156_p r156_n r156_c) ∧ 
                ∃ k19, k19 < k18 ∧ I17 r156_p r156_n r156_c (IntKind.i64.wrap (i_21 - (1 : Int))) w155 k19)))
              (∃ k19, k19 < k18 ∧ I17 in_20_p in_20_n in_20_c (IntKind.i64.wrap (i_21 - (1 : Int))) w106 k19))
              (∃ k19, k19 < k18 ∧ I17 in_20_p in_20_n in_20_c (IntKind.i64.wrap (i_21 - (1 : Int))) w103 k19)))))
        (Calls Try.prog 92 #[.slice trail__p trail__n trail__c, .slice in_20_p in_20_n in_20_c] w22 fun e w157 => ∃ r158_p : Option Addr, ∃ r158_n : Nat, ∃ r158_c : Nat, e = .returned (.slice r158_p r158_n r158_c) ∧ 
          K (.slice r158_p r158_n r158_c) w157))
theorem fathomref12_Learn.eq (trail__p : Option Addr) (trail__n : Nat) (trail__c : Nat) (broken__p : Option Addr) (broken__n : Nat) (broken__c : Nat) (w : World) (K : Value → World → Prop) : wpF Try.prog Try.f57 (.two .leaf (.two .leaf (.two .leaf (.two (.two .leaf (.one (.loop [(6, 3), (7, 3)] .leaf))) (.two (.two .leaf (.one (.loop [(5, 26), (8, 3)] (.two .leaf (.two (.one (.two .leaf (.two (.two .leaf (.one (.loop [(9, 3), (10, 3)] .leaf))) .leaf))) .leaf))))) .leaf))))) [.slice trail__p trail__n trail__c, .slice broken__p broken__n broken__c] w K = fathomref12_Learn.w trail__p trail__n trail__c broken__p broken__n broken__c w K := by kernel_rfl
theorem fathomref12_Learn.ok : fnOk Try.prog Try.f57 2 = true := by kernel_rfl
theorem fathomref12_Learn.calls {trail__p : Option Addr} {trail__n : Nat} {trail__c : Nat} {broken__p : Option Addr} {broken__n : Nat} {broken__c : Nat} {w : World} {R : Ending → World → Prop} (h : fathomref12_Learn.w trail__p trail__n trail__c broken__p broken__n broken__c w fun v w' => R (.returned v) w') : Calls Try.prog 57 #[.slice trail__p trail__n trail__c, .slice broken__p broken__n broken__c] w R :=
  calls_of mixed Try.func57 fathomref12_Learn.ok rfl (fun K => fathomref12_Learn.eq trail__p trail__n trail__c broken__p broken__n broken__c w K) h

/-! ### fathom/learn.Shorten: function 58 (named slots 10) -/
def learn_Shorten.w (trail__p : Option Addr) (trail__n : Nat) (trail__c : Nat) (learned__p : Option Addr) (learned__n : Nat) (learned__c : Nat) (w : World) (K : Value → World → Prop) : Prop :=
  Calls Try.prog 78 #[.slice trail__p trail__n trail__c] w fun e w1 => ∃ r2 : Bool, e = .returned (.bool r2) ∧ 
  cnd (!r2)
  (Calls Try.prog 67 #[.slice learned__p learned__n learned__c] w1 fun e w3 => ∃ r4_p : Option Addr, ∃ r4_n : Nat, ∃ r4_c : Nat, e = .returned (.slice r4_p r4_n r4_c) ∧ 
  K (.slice r4_p r4_n r4_c) w3)
  (Calls Try.prog 79 #[.slice trail__p trail__n trail__c, .slice learned__p learned__n learned__c] w1 fun e w5 => ∃ r6 : Bool, e = .returned (.bool r6) ∧ 
  cnd (!r6)
  (Calls Try.prog 67 #[.slice learned__p learned__n learned__c] w5 fun e w7 => ∃ r8_p : Option Addr, ∃ r8_n : Nat, ∃ r8_c : Nat, e = .returned (.slice r8_p r8_n r8_c) ∧ 
    K (.slice r8_p r8_n r8_c) w7)
  (Calls Try.prog 81 #[.slice trail__p trail__n trail__c] w5 fun e w9 => ∃ r10 : Option Nat, e = .returned (.map r10) ∧ 
    ∀ (n11 : Nat) (w12 : World), New (.map #[] 0) w9 n11 w12 → 
    ∀ (n13 : Nat) (w14 : World), New (.cells #[.slice trail__p trail__n trail__c, .map r10, .map (some n11)] 86) w12 n13 w14 → 
    Calls Try.prog 82 #[.pointer (some (Addr.mk n13 0 none)), .slice learned__p learned__n learned__c, .int .i64 0] w14 fun e w15 => e = .returned (.tuple #[]) ∧ 
    ∀ (n16 : Nat) (w17 : World), New (.map #[] 0) w15 n16 w17 → 
    ∃ I18 : Option Addr → Nat → Nat → Int → World → Nat → Prop, (∃ k19, I18 none 0 0 0 w17 k19) ∧
    ∀ (out_21_p : Option Addr) (out_21_n : Nat) (out_21_c : Nat) (v22 : Int) (w23 : World) (k19 : Nat) (_ : Fr), I18 out_21_p out_21_n out_21_c v22 w23 k19 →
    cnd (decide (v22 < (learned__n : Int)))
      (ixK learned__p learned__n v22 1 fun a24 =>
        ∃ x25 : Int, w23.cell? a24 = some (.int .i64 x25) ∧ 
        cnd (v22 == (0 : Int))
        (∀ (n26 : Nat) (w27 : World), New (.cells #[.int .i64 x25] 3) w23 n26 w27 → 
        ∃ w28 : World, ∃ r29_p : Option Addr, ∃ r29_n : Nat, ∃ r29_c : Nat, (Builtin.append_ #[26, 26] 26 #[.slice out_21_p out_21_n out_21_c, .slice (some (Addr.mk n26 0 none)) 1 1]).run Try.prog w27 = .ok (.slice r29_p r29_n r29_c) w28 ∧ 
        ∃ k20, k20 < k19 ∧ I18 r29_p r29_n r29_c (IntKind.i64.wrap (v22 + (1 : Int))) w28 k20)
        (Calls Try.prog 93 #[.pointer (some (Addr.mk n13 0 none)), .int .i64 x25] w23 fun e w30 => ∃ r31 : Int, e = .returned (.int .i64 r31) ∧ 
        cnd (decide (r31 > (0 : Int)))
        (Calls Try.prog 94 #[.pointer (some (Addr.mk n13 0 none)), .int .i64 x25, .map (some n16)] w30 fun e w32 => ∃ r33 : Bool, e = .returned (.bool r33) ∧ 
        cnd (!r33)
        (∀ (n34 : Nat) (w35 : World), New (.cells #[.int .i64 x25] 3) w32 n34 w35 → 
          ∃ w36 : World, ∃ r37_p : Option Addr, ∃ r37_n : Nat, ∃ r37_c : Nat, (Builtin.append_ #[26, 26] 26 #[.slice out_21_p out_21_n out_21_c, .slice (some (Addr.mk n34 0 none)) 1 1]).run Try.prog w35 = .ok (.slice r37_p r37_n r37_c) w36 ∧ 
          ∃ k20, k20 < k19 ∧ I18 r37_p r37_n r37_c (IntKind.i64.wrap (v22 + (1 : Int))) w36 k20)
        (∃ k20, k20 < k19 ∧ I18 out_21_p out_21_n out_21_c (IntKind.i64.wrap (v22 + (1 : Int))) w32 k20))
        (∃ k20, k20 < k19 ∧ I18 out_21_p out_21_n out_21_c (IntKind.i64.wrap (v22 + (1 : Int))) w30 k20)))
      (K (.slice out_21_p out_21_n out_21_c) w23)))
theorem learn_Shorten.eq (trail__p : Option Addr) (trail__n : Nat) (trail__c : Nat) (learned__p : Option Addr) (learned__n : Nat) (learned__c : Nat) (w : World) (K : Value → World → Prop) : wpF Try.prog Try.f58 (.two .leaf (.two .leaf (.two .leaf (.two .leaf (.two .leaf (.two .leaf (.two (.two .leaf (.one (.loop [(7, 26), (33, 3)] .leaf))) .leaf))))))) [.slice trail__p trail__n trail__c, .slice learned__p learned__n learned__c] w K = learn_Shorten.w trail__p trail__n trail__c learned__p learned__n learned__c w K := by kernel_rfl
theorem learn_Shorten.ok : fnOk Try.prog Try.f58 2 = true := by kernel_rfl
theorem learn_Shorten.calls {trail__p : Option Addr} {trail__n : Nat} {trail__c : Nat} {learned__p : Option Addr} {learned__n : Nat} {learned__c : Nat} {w : World} {R : Ending → World → Prop} (h : learn_Shorten.w trail__p trail__n trail__c learned__p learned__n learned__c w fun v w' => R (.returned v) w') : Calls Try.prog 58 #[.slice trail__p trail__n trail__c, .slice learned__p learned__n learned__c] w R :=
  calls_of mixed Try.func58 learn_Shorten.ok rfl (fun K => learn_Shorten.eq trail__p trail__n trail__c learned__p learned__n learned__c w K) h

/-! ### fathom/fathomref12.Shorten: function 59 (named slots 7) -/
def fathomref12_Shorten.w (trail__p : Option Addr) (trail__n : Nat) (trail__c : Nat) (learned__p : Option Addr) (learned__n : Nat) (learned__c : Nat) (w : World) (K : Value → World → Prop) : Prop :=
  Calls Try.prog 80 #[.slice trail__p trail__n trail__c] w fun e w1 => ∃ r2 : Bool, e = .returned (.bool r2) ∧ 
  cnd (!r2)
  (K (.slice learned__p learned__n learned__c) w1)
  (Calls Try.prog 60 #[.slice trail__p trail__n trail__c, .slice learned__p learned__n learned__c] w1 fun e w3 => ∃ r4 : Bool, e = .returned (.bool r4) ∧ 
  cnd (!r4)
  (K (.slice learned__p learned__n learned__c) w3)
  (∀ (n5 : Nat) (w6 : World), New (.cells #[] 3) w3 n5 w6 → 
    ∃ I7 : Option Addr → Nat → Nat → Int → World → Nat → Prop, (∃ k8, I7 (some (Addr.mk n5 0 none)) 0 0 0 w6 k8) ∧
    ∀ (out_10_p : Option Addr) (out_10_n : Nat) (out_10_c : Nat) (i_11 : Int) (w12 : World) (k8 : Nat) (_ : Fr), I7 out_10_p out_10_n out_10_c i_11 w12 k8 →
    cnd (decide (i_11 < (learned__n : Int)))
      (cnd (i_11 == (0 : Int))
        (ixK learned__p learned__n i_11 1 fun a13 =>
        ∃ x14 : Int, w12.cell? a13 = some (.int .i64 x14) ∧ 
        ∀ (n15 : Nat) (w16 : World), New (.cells #[.int .i64 x14] 3) w12 n15 w16 → 
        ∃ w17 : World, ∃ r18_p : Option Addr, ∃ r18_n : Nat, ∃ r18_c : Nat, (Builtin.append_ #[26, 26] 26 #[.slice out_10_p out_10_n out_10_c, .slice (some (Addr.mk n15 0 none)) 1 1]).run Try.prog w16 = .ok (.slice r18_p r18_n r18_c) w17 ∧ 
        ∃ k9, k9 < k8 ∧ I7 r18_p r18_n r18_c (IntKind.i64.wrap (i_11 + (1 : Int))) w17 k9)
        (ixK learned__p learned__n i_11 1 fun a19 =>
        ∃ x20 : Int, w12.cell? a19 = some (.int .i64 x20) ∧ 
        Calls Try.prog 61 #[.slice trail__p trail__n trail__c, .int .i64 x20] w12 fun e w21 => ∃ r22 : Int, e = .returned (.int .i64 r22) ∧ 
        cnd (decide (r22 > (0 : Int)))
        (ixK learned__p learned__n i_11 1 fun a23 =>
        ∃ x24 : Int, w21.cell? a23 = some (.int .i64 x24) ∧ 
        Calls Try.prog 95 #[.slice trail__p trail__n trail__c, .slice learned__p learned__n learned__c, .int .i64 x24] w21 fun e w25 => ∃ r26 : Bool, e = .returned (.bool r26) ∧ 
        cnd (!r26)
        (ixK learned__p learned__n i_11 1 fun a27 =>
          ∃ x28 : Int, w25.cell? a27 = some (.int .i64 x28) ∧ 
          ∀ (n29 : Nat) (w30 : World), New (.cells #[.int .i64 x28] 3) w25 n29 w30 → 
          ∃ w31 : World, ∃ r32_p : Option Addr, ∃ r32_n : Nat, ∃ r32_c : Nat, (Builtin.append_ #[26, 26] 26 #[.slice out_10_p out_10_n out_10_c, .slice (some (Addr.mk n29 0 none)) 1 1]).run Try.prog w30 = .ok (.slice r32_p r32_n r32_c) w31 ∧ 
          ∃ k9, k9 < k8 ∧ I7 r32_p r32_n r32_c (IntKind.i64.wrap (i_11 + (1 : Int))) w31 k9)
        (∃ k9, k9 < k8 ∧ I7 out_10_p out_10_n out_10_c (IntKind.i64.wrap (i_11 + (1 : Int))) w25 k9))
        (∃ k9, k9 < k8 ∧ I7 out_10_p out_10_n out_10_c (IntKind.i64.wrap (i_11 + (1 : Int))) w21 k9)))
      (K (.slice out_10_p out_10_n out_10_c) w12)))
theorem fathomref12_Shorten.eq (trail__p : Option Addr) (trail__n : Nat) (trail__c : Nat) (learned__p : Option Addr) (learned__n : Nat) (learned__c : Nat) (w : World) (K : Value → World → Prop) : wpF Try.prog Try.f59 (.two .leaf (.two .leaf (.two .leaf (.two (.two .leaf (.one (.loop [(5, 26), (6, 3)] .leaf))) .leaf)))) [.slice trail__p trail__n trail__c, .slice learned__p learned__n learned__c] w K = fathomref12_Shorten.w trail__p trail__n trail__c learned__p learned__n learned__c w K := by kernel_rfl
theorem fathomref12_Shorten.ok : fnOk Try.prog Try.f59 2 = true := by kernel_rfl
theorem fathomref12_Shorten.calls {trail__p : Option Addr} {trail__n : Nat} {trail__c : Nat} {learned__p : Option Addr} {learned__n : Nat} {learned__c : Nat} {w : World} {R : Ending → World → Prop} (h : fathomref12_Shorten.w trail__p trail__n trail__c learned__p learned__n learned__c w fun v w' => R (.returned v) w') : Calls Try.prog 59 #[.slice trail__p trail__n trail__c, .slice learned__p learned__n learned__c] w R :=
  calls_of mixed Try.func59 fathomref12_Shorten.ok rfl (fun K => fathomref12_Shorten.eq trail__p trail__n trail__c learned__p learned__n learned__c w K) h

/-! ### fathom/fathomref12.Breaks: function 60 (named slots 7) -/
def fathomref12_Breaks.w (trail__p : Option Addr) (trail__n : Nat) (trail__c : Nat) (c__p : Option Addr) (c__n : Nat) (c__c : Nat) (w : World) (K : Value → World → Prop) : Prop :=
  ∃ I1 : Int → World → Nat → Prop, (∃ k2, I1 0 w k2) ∧
  ∀ (i_4 : Int) (w5 : World) (k2 : Nat) (_ : Fr), I1 i_4 w5 k2 →
  cnd (decide (i_4 < (c__n : Int)))
    (ixK c__p c__n i_4 1 fun a6 =>
      ∃ x7 : Int, w5.cell? a6 = some (.int .i64 x7) ∧ 
      Calls Try.prog 55 #[.int .i64 x7] w5 fun e w8 => ∃ r9 : Bool, e = .returned (.bool r9) ∧ 
      cnd (!r9)
      (K (.bool false) w8)
      (ixK c__p c__n i_4 1 fun a10 =>
        ∃ x11 : Int, w8.cell? a10 = some (.int .i64 x11) ∧ 
        Calls Try.prog 77 #[.int .i64 x11] w8 fun e w12 => ∃ r13 : Int, e = .returned (.int .i64 r13) ∧ 
        Calls Try.prog 96 #[.slice trail__p trail__n trail__c, .int .i64 r13] w12 fun e w14 => ∃ r15 : Int, e = .returned (.int .i64 r15) ∧ 
        cnd (decide (r15 < (0 : Int)))
        (K (.bool false) w14.drew)
        (ixK trail__p trail__n r15 3 fun a16 =>
        ∃ x17 : Int, w14.drew.cell? (a16.add 0) = some (.int .i64 x17) ∧ 
        ixK c__p c__n i_4 1 fun a18 =>
        ∃ x19 : Int, w14.drew.cell? a18 = some (.int .i64 x19) ∧ 
        cnd (x17 != (IntKind.i64.wrap (0 - x19)))
        (K (.bool false) w14.drew)
        (∃ k3, k3 < k2 ∧ I1 (IntKind.i64.wrap (i_4 + (1 : Int))) w14.drew k3))))
    (K (.bool true) w5)
theorem fathomref12_Breaks.eq (trail__p : Option Addr) (trail__n : Nat) (trail__c : Nat) (c__p : Option Addr) (c__n : Nat) (c__c : Nat) (w : World) (K : Value → World → Prop) : wpF Try.prog Try.f60 (.two .leaf (.two (.two .leaf (.one (.loop [(5, 3)] .leaf))) .leaf)) [.slice trail__p trail__n trail__c, .slice c__p c__n c__c] w K = fathomref12_Breaks.w trail__p trail__n trail__c c__p c__n c__c w K := by kernel_rfl
theorem fathomref12_Breaks.ok : fnOk Try.prog Try.f60 2 = true := by kernel_rfl
theorem fathomref12_Breaks.calls {trail__p : Option Addr} {trail__n : Nat} {trail__c : Nat} {c__p : Option Addr} {c__n : Nat} {c__c : Nat} {w : World} {R : Ending → World → Prop} (h : fathomref12_Breaks.w trail__p trail__n trail__c c__p c__n c__c w fun v w' => R (.returned v) w') : Calls Try.prog 60 #[.slice trail__p trail__n trail__c, .slice c__p c__n c__c] w R :=
  calls_of mixed Try.func60 fathomref12_Breaks.ok rfl (fun K => fathomref12_Breaks.eq trail__p trail__n trail__c c__p c__n c__c w K) h

/-! ### fathom/fathomref12.Level: function 61 (named slots 5) -/
def fathomref12_Level.w (trail__p : Option Addr) (trail__n : Nat) (trail__c : Nat) (l_ : Int) (w : World) (K : Value → World → Prop) : Prop :=
  Calls Try.prog 77 #[.int .i64 l_] w fun e w1 => ∃ r2 : Int, e = .returned (.int .i64 r2) ∧ 
  Calls Try.prog 96 #[.slice trail__p trail__n trail__c, .int .i64 r2] w1 fun e w3 => ∃ r4 : Int, e = .returned (.int .i64 r4) ∧ 
  ixK trail__p trail__n r4 3 fun a5 =>
  ∃ x6 : Int, w3.cell? (a5.add 1) = some (.int .i64 x6) ∧ 
  K (.int .i64 x6) w3
theorem fathomref12_Level.eq (trail__p : Option Addr) (trail__n : Nat) (trail__c : Nat) (l_ : Int) (w : World) (K : Value → World → Prop) : wpF Try.prog Try.f61 .leaf [.slice trail__p trail__n trail__c, .int .i64 l_] w K = fathomref12_Level.w trail__p trail__n trail__c l_ w K := by kernel_rfl
theorem fathomref12_Level.ok : fnOk Try.prog Try.f61 2 = true := by kernel_rfl
theorem fathomref12_Level.calls {trail__p : Option Addr} {trail__n : Nat} {trail__c : Nat} {l_ : Int} {w : World} {R : Ending → World → Prop} (h : fathomref12_Level.w trail__p trail__n trail__c l_ w fun v w' => R (.returned v) w') : Calls Try.prog 61 #[.slice trail__p trail__n trail__c, .int .i64 l_] w R :=
  calls_of mixed Try.func61 fathomref12_Level.ok rfl (fun K => fathomref12_Level.eq trail__p trail__n trail__c l_ w K) h

/-! ### fathom/learn.Back: function 62 (named slots 9) -/
def learn_Back.w (trail__p : Option Addr) (trail__n : Nat) (trail__c : Nat) (learned__p : Option Addr) (learned__n : Nat) (learned__c : Nat) (w : World) (K : Value → World → Prop) : Prop :=
  Calls Try.prog 78 #[.slice trail__p trail__n trail__c] w fun e w1 => ∃ r2 : Bool, e = .returned (.bool r2) ∧ 
  cnd (!r2)
  (K (.int .i64 (-1)) w1)
  (cnd ((learned__n : Int) == (0 : Int))
  (K (.int .i64 (-1)) w1)
  (Calls Try.prog 79 #[.slice trail__p trail__n trail__c, .slice learned__p learned__n learned__c] w1 fun e w3 => ∃ r4 : Bool, e = .returned (.bool r4) ∧ 
  cnd (!r4)
  (K (.int .i64 (-1)) w3)
  (Calls Try.prog 81 #[.slice trail__p trail__n trail__c] w3 fun e w5 => ∃ r6 : Option Nat, e = .returned (.map r6) ∧ 
    slK learned__p learned__n learned__c 1 (some 1) none none fun s7_p s7_n s7_c =>
    ∃ I8 : Int → Int → World → Nat → Prop, (∃ k9, I8 0 0 w5 k9) ∧
    ∀ (level_11 : Int) (v12 : Int) (w13 : World) (k9 : Nat) (_ : Fr), I8 level_11 v12 w13 k9 →
    cnd (decide (v12 < (s7_n : Int)))
      (ixK s7_p s7_n v12 1 fun a14 =>
        ∃ x15 : Int, w13.cell? a14 = some (.int .i64 x15) ∧ 
        Calls Try.prog 97 #[.int .i64 x15] w13 fun e w16 => ∃ r17 : Int, e = .returned (.int .i64 r17) ∧ 
        ∃ w18 : World, ∃ r19 : Int, (Instr.lookup 82 (.map r6) (.int .i64 r17) false).run Try.prog w16 = .ok (.int .i64 r19) w18 ∧ 
        ixK trail__p trail__n (IntKind.i64.wrap (r19 - (1 : Int))) 3 fun a20 =>
        ∃ x21 : Int, w18.cell? (a20.add 1) = some (.int .i64 x21) ∧ 
        ∃ k10, k10 < k9 ∧ I8 (imax level_11 x21) (IntKind.i64.wrap (v12 + (1 : Int))) w18 k10)
      (K (.int .i64 level_11) w13))))
theorem learn_Back.eq (trail__p : Option Addr) (trail__n : Nat) (trail__c : Nat) (learned__p : Option Addr) (learned__n : Nat) (learned__c : Nat) (w : World) (K : Value → World → Prop) : wpF Try.prog Try.f62 (.two .leaf (.two .leaf (.two .leaf (.two .leaf (.two (.two .leaf (.one (.loop [(6, 3), (28, 3)] .leaf))) .leaf))))) [.slice trail__p trail__n trail__c, .slice learned__p learned__n learned__c] w K = learn_Back.w trail__p trail__n trail__c learned__p learned__n learned__c w K := by kernel_rfl
theorem learn_Back.ok : fnOk Try.prog Try.f62 2 = true := by kernel_rfl
theorem learn_Back.calls {trail__p : Option Addr} {trail__n : Nat} {trail__c : Nat} {learned__p : Option Addr} {learned__n : Nat} {learned__c : Nat} {w : World} {R : Ending → World → Prop} (h : learn_Back.w trail__p trail__n trail__c learned__p learned__n learned__c w fun v w' => R (.returned v) w') : Calls Try.prog 62 #[.slice trail__p trail__n trail__c, .slice learned__p learned__n learned__c] w R :=
  calls_of mixed Try.func62 learn_Back.ok rfl (fun K => learn_Back.eq trail__p trail__n trail__c learned__p learned__n learned__c w K) h

/-! ### fathom/learn.Levels: function 63 (named slots 10) -/
def learn_Levels.w (trail__p : Option Addr) (trail__n : Nat) (trail__c : Nat) (c__p : Option Addr) (c__n : Nat) (c__c : Nat) (w : World) (K : Value → World → Prop) : Prop :=
  Calls Try.prog 78 #[.slice trail__p trail__n trail__c] w fun e w1 => ∃ r2 : Bool, e = .returned (.bool r2) ∧ 
  cnd (!r2)
  (K (.int .i64 0) w1)
  (Calls Try.prog 81 #[.slice trail__p trail__n trail__c] w1 fun e w3 => ∃ r4 : Option Nat, e = .returned (.map r4) ∧ 
    ∀ (n5 : Nat) (w6 : World), New (.map #[] 0) w3 n5 w6 → 
    ∃ I7 : Int → World → Nat → Prop, (∃ k8, I7 0 w6 k8) ∧
    ∀ (v10 : Int) (w11 : World) (k8 : Nat) (_ : Fr), I7 v10 w11 k8 →
    cnd (decide (v10 < (c__n : Int)))
      (ixK c__p c__n v10 1 fun a12 =>
        ∃ x13 : Int, w11.cell? a12 = some (.int .i64 x13) ∧ 
        Calls Try.prog 97 #[.int .i64 x13] w11 fun e w14 => ∃ r15 : Int, e = .returned (.int .i64 r15) ∧ 
        ∃ w16 : World, ∃ r17 : Int, (Instr.lookup 82 (.map r4) (.int .i64 r15) false).run Try.prog w14 = .ok (.int .i64 r17) w16 ∧ 
        cnd (decide (r17 > (0 : Int)))
        (ixK trail__p trail__n (IntKind.i64.wrap (r17 - (1 : Int))) 3 fun a18 =>
          ∃ x19 : Int, w16.cell? (a18.add 1) = some (.int .i64 x19) ∧ 
          ∃ w20 : World, (Instr.mapUpdate 84 (.map (some n5)) (.int .i64 x19) (.bool true)).run Try.prog w16 = .ok () w20 ∧ 
          ∃ k9, k9 < k8 ∧ I7 (IntKind.i64.wrap (v10 + (1 : Int))) w20 k9)
        (∃ k9, k9 < k8 ∧ I7 (IntKind.i64.wrap (v10 + (1 : Int))) w16 k9))
      (∃ n21 : Int, (Builtin.len_ #[84] 3 #[.map (some n5)]).run Try.prog w11 = .ok (.int .i64 n21) w11 ∧ 
        K (.int .i64 n21) w11))
theorem learn_Levels.eq (trail__p : Option Addr) (trail__n : Nat) (trail__c : Nat) (c__p : Option Addr) (c__n : Nat) (c__c : Nat) (w : World) (K : Value → World → Prop) : wpF Try.prog Try.f63 (.two .leaf (.two .leaf (.two .leaf (.two .leaf (.two (.two .leaf (.one (.loop [(18, 3)] .leaf))) .leaf))))) [.slice trail__p trail__n trail__c, .slice c__p c__n c__c] w K = learn_Levels.w trail__p trail__n trail__c c__p c__n c__c w K := by kernel_rfl
theorem learn_Levels.ok : fnOk Try.prog Try.f63 2 = true := by kernel_rfl
theorem learn_Levels.calls {trail__p : Option Addr} {trail__n : Nat} {trail__c : Nat} {c__p : Option Addr} {c__n : Nat} {c__c : Nat} {w : World} {R : Ending → World → Prop} (h : learn_Levels.w trail__p trail__n trail__c c__p c__n c__c w fun v w' => R (.returned v) w') : Calls Try.prog 63 #[.slice trail__p trail__n trail__c, .slice c__p c__n c__c] w R :=
  calls_of mixed Try.func63 learn_Levels.ok rfl (fun K => learn_Levels.eq trail__p trail__n trail__c c__p c__n c__c w K) h

/-! ### slices.SortFunc[[]int,int]: function 65 (named slots 5) -/
def slices_SortFunc_int_int.w (x0__p : Option Addr) (x0__n : Nat) (x0__c : Nat) (cmp_f : FuncId) (cmp_v : Array Value) (w : World) (K : Value → World → Prop) : Prop :=
  Calls Try.prog 99 #[.int .u64 (IntKind.u64.wrap (x0__n : Int))] w fun e w1 => ∃ r2 : Int, e = .returned (.int .i64 r2) ∧ 
  Calls Try.prog 98 #[.slice x0__p x0__n x0__c, .int .i64 0, .int .i64 (x0__n : Int), .int .i64 r2, .func (.func cmp_f) #[] cmp_v] w1 fun e w3 => e = .returned (.tuple #[]) ∧ 
  K (.tuple #[]) w3
theorem slices_SortFunc_int_int.eq (x0__p : Option Addr) (x0__n : Nat) (x0__c : Nat) (cmp_f : FuncId) (cmp_v : Array Value) (w : World) (K : Value → World → Prop) : wpF Try.prog Try.f65 .leaf [.slice x0__p x0__n x0__c, .func (.func cmp_f) #[] cmp_v] w K = slices_SortFunc_int_int.w x0__p x0__n x0__c cmp_f cmp_v w K := by kernel_rfl
theorem slices_SortFunc_int_int.ok : fnOk Try.prog Try.f65 2 = true := by kernel_rfl
theorem slices_SortFunc_int_int.calls {x0__p : Option Addr} {x0__n : Nat} {x0__c : Nat} {cmp_f : FuncId} {cmp_v : Array Value} {w : World} {R : Ending → World → Prop} (h : slices_SortFunc_int_int.w x0__p x0__n x0__c cmp_f cmp_v w fun v w' => R (.returned v) w') : Calls Try.prog 65 #[.slice x0__p x0__n x0__c, .func (.func cmp_f) #[] cmp_v] w R :=
  calls_of mixed Try.func65 slices_SortFunc_int_int.ok rfl (fun K => slices_SortFunc_int_int.eq x0__p x0__n x0__c cmp_f cmp_v w K) h

/-! ### slices.Clone[[]int,int]: function 67 (named slots 4) -/
def slices_Clone_int_int.w (s__p : Option Addr) (s__n : Nat) (s__c : Nat) (w : World) (K : Value → World → Prop) : Prop :=
  cnd s__p.isNone
  (K (.slice none 0 0) w)
  (∀ (n1 : Nat) (w2 : World), New (.cells #[] 3) w n1 w2 → 
    ∃ w3 : World, ∃ r4_p : Option Addr, ∃ r4_n : Nat, ∃ r4_c : Nat, (Builtin.append_ #[26, 26] 26 #[.slice (some (Addr.mk n1 0 none)) 0 0, .slice s__p s__n s__c]).run Try.prog w2 = .ok (.slice r4_p r4_n r4_c) w3 ∧ 
    K (.slice r4_p r4_n r4_c) w3)
theorem slices_Clone_int_int.eq (s__p : Option Addr) (s__n : Nat) (s__c : Nat) (w : World) (K : Value → World → Prop) : wpF Try.prog Try.f67 .leaf [.slice s__p s__n s__c] w K = slices_Clone_int_int.w s__p s__n s__c w K := by kernel_rfl
theorem slices_Clone_int_int.ok : fnOk Try.prog Try.f67 1 = true := by kernel_rfl
theorem slices_Clone_int_int.calls {s__p : Option Addr} {s__n : Nat} {s__c : Nat} {w : World} {R : Ending → World → Prop} (h : slices_Clone_int_int.w s__p s__n s__c w fun v w' => R (.returned v) w') : Calls Try.prog 67 #[.slice s__p s__n s__c] w R :=
  calls_of mixed Try.func67 slices_Clone_int_int.ok rfl (fun K => slices_Clone_int_int.eq s__p s__n s__c w K) h

/-! ### fathom/lit.before: function 68 (named slots 5) -/
def lit_before.w (a_ : Int) (b_ : Int) (w : World) (K : Value → World → Prop) : Prop :=
  Calls Try.prog 76 #[.int .i64 a_] w fun e w1 => ∃ r2 : Int, e = .returned (.int .i64 r2) ∧ 
  Calls Try.prog 76 #[.int .i64 b_] w1 fun e w3 => ∃ r4 : Int, e = .returned (.int .i64 r4) ∧ 
  cnd (r2 != r4)
  (Calls Try.prog 76 #[.int .i64 a_] w3 fun e w5 => ∃ r6 : Int, e = .returned (.int .i64 r6) ∧ 
    Calls Try.prog 76 #[.int .i64 b_] w5 fun e w7 => ∃ r8 : Int, e = .returned (.int .i64 r8) ∧ 
    K (.int .i64 (IntKind.i64.wrap (r6 - r8))) w7)
  (K (.int .i64 (IntKind.i64.wrap (b_ - a_))) w3)
theorem lit_before.eq (a_ : Int) (b_ : Int) (w : World) (K : Value → World → Prop) : wpF Try.prog Try.f68 .leaf [.int .i64 a_, .int .i64 b_] w K = lit_before.w a_ b_ w K := by kernel_rfl
theorem lit_before.ok : fnOk Try.prog Try.f68 2 = true := by kernel_rfl
theorem lit_before.calls {a_ : Int} {b_ : Int} {w : World} {R : Ending → World → Prop} (h : lit_before.w a_ b_ w fun v w' => R (.returned v) w') : Calls Try.prog 68 #[.int .i64 a_, .int .i64 b_] w R :=
  calls_of mixed Try.func68 lit_before.ok rfl (fun K => lit_before.eq a_ b_ w K) h

/-! ### slices.Compact[[]int,int]: function 69 (named slots 4) -/
def slices_Compact_int_int.w (s__p : Option Addr) (s__n : Nat) (s__c : Nat) (w : World) (K : Value → World → Prop) : Prop :=
  cnd (decide ((s__n : Int) < (2 : Int)))
  (K (.slice s__p s__n s__c) w)
  (∃ I1 : Int → World → Nat → Prop, (∃ k2, I1 1 w k2) ∧
    ∀ (k_4 : Int) (w5 : World) (k2 : Nat) (_ : Fr), I1 k_4 w5 k2 →
    cnd (decide (k_4 < (s__n : Int)))
      (ixK s__p s__n k_4 1 fun a6 =>
        ∃ x7 : Int, w5.drew.cell? a6 = some (.int .i64 x7) ∧ 
        ixK s__p s__n (IntKind.i64.wrap (k_4 - (1 : Int))) 1 fun a8 =>
        ∃ x9 : Int, w5.drew.cell? a8 = some (.int .i64 x9) ∧ 
        cnd (x7 == x9)
        (slK s__p s__n s__c 1 (some k_4) none none fun s10_p s10_n s10_c =>
          ∃ I11 : Int → Int → World → Nat → Prop, (∃ k12, I11 k_4 1 w5.drew k12) ∧
          ∀ (k_14 : Int) (k2_15 : Int) (w16 : World) (k12 : Nat) (_ : Fr), I11 k_14 k2_15 w16 k12 →
          cnd (decide (k2_15 < (s10_n : Int)))
            (ixK s10_p s10_n k2_15 1 fun a17 =>
              ∃ x18 : Int, w16.drew.cell? a17 = some (.int .i64 x18) ∧ 
              ixK s10_p s10_n (IntKind.i64.wrap (k2_15 - (1 : Int))) 1 fun a19 =>
              ∃ x20 : Int, w16.drew.cell? a19 = some (.int .i64 x20) ∧ 
              cnd (x18 != x20)
              (ixK s10_p s10_n k2_15 1 fun a21 =>
                ∃ x22 : Int, w16.drew.cell? a21 = some (.int .i64 x22) ∧ 
                ixK s__p s__n k_14 1 fun a23 =>
                ∃ w24 : World, StoreAt a23 0 [.int .i64 x22] w16.drew w24 ∧ 
                ∃ k13, k13 < k12 ∧ I11 (IntKind.i64.wrap (k_14 + (1 : Int))) (IntKind.i64.wrap (k2_15 + (1 : Int))) w24 k13)
              (∃ k13, k13 < k12 ∧ I11 k_14 (IntKind.i64.wrap (k2_15 + (1 : Int))) w16.drew k13))
            (slK s__p s__n s__c 1 (some k_14) none none fun s25_p s25_n s25_c =>
              ∃ w26 : World, (Builtin.clear_ #[26] 0 #[.slice s25_p s25_n s25_c]).run Try.prog w16 = .ok (.tuple #[]) w26 ∧ 
              slK s__p s__n s__c 1 none (some k_14) none fun s27_p s27_n s27_c =>
              K (.slice s27_p s27_n s27_c) w26))
        (∃ k3, k3 < k2 ∧ I1 (IntKind.i64.wrap (k_4 + (1 : Int))) w5.drew k3))
      (K (.slice s__p s__n s__c) w5))
theorem slices_Compact_int_int.eq (s__p : Option Addr) (s__n : Nat) (s__c : Nat) (w : World) (K : Value → World → Prop) : wpF Try.prog Try.f69 (.two .leaf (.two .leaf (.two (.two .leaf (.one (.loop [(3, 3)] (.two .leaf (.two (.one (.two .leaf (.two (.two .leaf (.two (.two .leaf (.one (.loop [(3, 3), (5, 3)] .leaf))) .leaf)) .leaf))) .leaf))))) .leaf))) [.slice s__p s__n s__c] w K = slices_Compact_int_int.w s__p s__n s__c w K := by kernel_rfl
theorem slices_Compact_int_int.ok : fnOk Try.prog Try.f69 1 = true := by kernel_rfl
theorem slices_Compact_int_int.calls {s__p : Option Addr} {s__n : Nat} {s__c : Nat} {w : World} {R : Ending → World → Prop} (h : slices_Compact_int_int.w s__p s__n s__c w fun v w' => R (.returned v) w') : Calls Try.prog 69 #[.slice s__p s__n s__c] w R :=
  calls_of mixed Try.func69 slices_Compact_int_int.ok rfl (fun K => slices_Compact_int_int.eq s__p s__n s__c w K) h

/-! ### slices.ContainsFunc[[]int,int]: function 70 (named slots 5) -/
def slices_ContainsFunc_int_int.w (s__p : Option Addr) (s__n : Nat) (s__c : Nat) (f_f : FuncId) (f_v : Array Value) (w : World) (K : Value → World → Prop) : Prop :=
  Calls Try.prog 100 #[.slice s__p s__n s__c, .func (.func f_f) #[] f_v] w fun e w1 => ∃ r2 : Int, e = .returned (.int .i64 r2) ∧ 
  K (.bool (decide (r2 ≥ (0 : Int)))) w1
theorem slices_ContainsFunc_int_int.eq (s__p : Option Addr) (s__n : Nat) (s__c : Nat) (f_f : FuncId) (f_v : Array Value) (w : World) (K : Value → World → Prop) : wpF Try.prog Try.f70 .leaf [.slice s__p s__n s__c, .func (.func f_f) #[] f_v] w K = slices_ContainsFunc_int_int.w s__p s__n s__c f_f f_v w K := by kernel_rfl
theorem slices_ContainsFunc_int_int.ok : fnOk Try.prog Try.f70 2 = true := by kernel_rfl
theorem slices_ContainsFunc_int_int.calls {s__p : Option Addr} {s__n : Nat} {s__c : Nat} {f_f : FuncId} {f_v : Array Value} {w : World} {R : Ending → World → Prop} (h : slices_ContainsFunc_int_int.w s__p s__n s__c f_f f_v w fun v w' => R (.returned v) w') : Calls Try.prog 70 #[.slice s__p s__n s__c, .func (.func f_f) #[] f_v] w R :=
  calls_of mixed Try.func70 slices_ContainsFunc_int_int.ok rfl (fun K => slices_ContainsFunc_int_int.eq s__p s__n s__c f_f f_v w K) h

/-! ### fathom/lit.Check$1: function 71 (named slots 3) -/
def lit_Check_1.w (l_ : Int) (w : World) (K : Value → World → Prop) : Prop :=
  Calls Try.prog 72 #[.int .i64 l_] w fun e w1 => ∃ r2 : Bool, e = .returned (.bool r2) ∧ 
  K (.bool (!r2)) w1
theorem lit_Check_1.eq (l_ : Int) (w : World) (K : Value → World → Prop) : wpF Try.prog Try.f71 .leaf [.int .i64 l_] w K = lit_Check_1.w l_ w K := by kernel_rfl
theorem lit_Check_1.ok : fnOk Try.prog Try.f71 1 = true := by kernel_rfl
theorem lit_Check_1.calls {l_ : Int} {w : World} {R : Ending → World → Prop} (h : lit_Check_1.w l_ w fun v w' => R (.returned v) w') : Calls Try.prog 71 #[.int .i64 l_] w R :=
  calls_of mixed Try.func71 lit_Check_1.ok rfl (fun K => lit_Check_1.eq l_ w K) h

/-! ### fathom/lit.is: function 72 (named slots 3) -/
def lit_is.w (l_ : Int) (w : World) (K : Value → World → Prop) : Prop :=
  cnd (l_ != (0 : Int))
  (cnd (decide (l_ ≥ (-1048576)))
  (K (.bool (decide (l_ ≤ (1048576 : Int)))) w)
  (K (.bool false) w))
  (K (.bool false) w)
theorem lit_is.eq (l_ : Int) (w : World) (K : Value → World → Prop) : wpF Try.prog Try.f72 .leaf [.int .i64 l_] w K = lit_is.w l_ w K := by kernel_rfl
theorem lit_is.ok : fnOk Try.prog Try.f72 1 = true := by kernel_rfl
theorem lit_is.calls {l_ : Int} {w : World} {R : Ending → World → Prop} (h : lit_is.w l_ w fun v w' => R (.returned v) w') : Calls Try.prog 72 #[.int .i64 l_] w R :=
  calls_of mixed Try.func72 lit_is.ok rfl (fun K => lit_is.eq l_ w K) h

/-! ### fathom/fathomref01.Ahead: function 73 (named slots 5) -/
def fathomref01_Ahead.w (a_ : Int) (b_ : Int) (w : World) (K : Value → World → Prop) : Prop :=
  Calls Try.prog 77 #[.int .i64 a_] w fun e w1 => ∃ r2 : Int, e = .returned (.int .i64 r2) ∧ 
  Calls Try.prog 77 #[.int .i64 b_] w1 fun e w3 => ∃ r4 : Int, e = .returned (.int .i64 r4) ∧ 
  cnd (decide (r2 < r4))
  (K (.bool true) w3)
  (Calls Try.prog 77 #[.int .i64 a_] w3 fun e w5 => ∃ r6 : Int, e = .returned (.int .i64 r6) ∧ 
  Calls Try.prog 77 #[.int .i64 b_] w5 fun e w7 => ∃ r8 : Int, e = .returned (.int .i64 r8) ∧ 
  cnd (r6 == r8)
  (K (.bool (decide (a_ > b_))) w7)
  (K (.bool false) w7))
theorem fathomref01_Ahead.eq (a_ : Int) (b_ : Int) (w : World) (K : Value → World → Prop) : wpF Try.prog Try.f73 .leaf [.int .i64 a_, .int .i64 b_] w K = fathomref01_Ahead.w a_ b_ w K := by kernel_rfl
theorem fathomref01_Ahead.ok : fnOk Try.prog Try.f73 2 = true := by kernel_rfl
theorem fathomref01_Ahead.calls {a_ : Int} {b_ : Int} {w : World} {R : Ending → World → Prop} (h : fathomref01_Ahead.w a_ b_ w fun v w' => R (.returned v) w') : Calls Try.prog 73 #[.int .i64 a_, .int .i64 b_] w R :=
  calls_of mixed Try.func73 fathomref01_Ahead.ok rfl (fun K => fathomref01_Ahead.eq a_ b_ w K) h

/-! ### fathom/lit.Within$1: function 74 (named slots 4) -/
def lit_Within_1.w (n_ : Int) (c0_ : Addr) (w : World) (K : Value → World → Prop) : Prop :=
  ∃ x1_p : Option Addr, ∃ x1_n : Nat, ∃ x1_c : Nat, w.cell? c0_ = some (.slice x1_p x1_n x1_c) ∧ 
  Calls Try.prog 75 #[.slice x1_p x1_n x1_c, .int .i64 n_] w fun e w2 => ∃ r3 : Bool, e = .returned (.bool r3) ∧ 
  K (.bool (!r3)) w2
theorem lit_Within_1.eq (n_ : Int) (c0_ : Addr) (w : World) (K : Value → World → Prop) : wpF Try.prog Try.f74 .leaf [.int .i64 n_, .pointer (some c0_)] w K = lit_Within_1.w n_ c0_ w K := by kernel_rfl
theorem lit_Within_1.ok : fnOk Try.prog Try.f74 2 = true := by kernel_rfl
theorem lit_Within_1.calls {n_ : Int} {c0_ : Addr} {w : World} {R : Ending → World → Prop} (h : lit_Within_1.w n_ c0_ w fun v w' => R (.returned v) w') : Calls Try.prog 74 #[.int .i64 n_, .pointer (some c0_)] w R :=
  calls_of mixed Try.func74 lit_Within_1.ok rfl (fun K => lit_Within_1.eq n_ c0_ w K) h

/-! ### slices.Contains[[]int,int]: function 75 (named slots 5) -/
def slices_Contains_int_int.w (s__p : Option Addr) (s__n : Nat) (s__c : Nat) (v_ : Int) (w : World) (K : Value → World → Prop) : Prop :=
  Calls Try.prog 101 #[.slice s__p s__n s__c, .int .i64 v_] w fun e w1 => ∃ r2 : Int, e = .returned (.int .i64 r2) ∧ 
  K (.bool (decide (r2 ≥ (0 : Int)))) w1
theorem slices_Contains_int_int.eq (s__p : Option Addr) (s__n : Nat) (s__c : Nat) (v_ : Int) (w : World) (K : Value → World → Prop) : wpF Try.prog Try.f75 .leaf [.slice s__p s__n s__c, .int .i64 v_] w K = slices_Contains_int_int.w s__p s__n s__c v_ w K := by kernel_rfl
theorem slices_Contains_int_int.ok : fnOk Try.prog Try.f75 2 = true := by kernel_rfl
theorem slices_Contains_int_int.calls {s__p : Option Addr} {s__n : Nat} {s__c : Nat} {v_ : Int} {w : World} {R : Ending → World → Prop} (h : slices_Contains_int_int.w s__p s__n s__c v_ w fun v w' => R (.returned v) w') : Calls Try.prog 75 #[.slice s__p s__n s__c, .int .i64 v_] w R :=
  calls_of mixed Try.func75 slices_Contains_int_int.ok rfl (fun K => slices_Contains_int_int.eq s__p s__n s__c v_ w K) h

/-! ### fathom/lit.amount: function 76 (named slots 3) -/
def lit_amount.w (l_ : Int) (w : World) (K : Value → World → Prop) : Prop :=
  K (.int .i64 (imax l_ (IntKind.i64.wrap (0 - l_)))) w
theorem lit_amount.eq (l_ : Int) (w : World) (K : Value → World → Prop) : wpF Try.prog Try.f76 .leaf [.int .i64 l_] w K = lit_amount.w l_ w K := by kernel_rfl
theorem lit_amount.ok : fnOk Try.prog Try.f76 1 = true := by kernel_rfl
theorem lit_amount.calls {l_ : Int} {w : World} {R : Ending → World → Prop} (h : lit_amount.w l_ w fun v w' => R (.returned v) w') : Calls Try.prog 76 #[.int .i64 l_] w R :=
  calls_of mixed Try.func76 lit_amount.ok rfl (fun K => lit_amount.eq l_ w K) h

/-! ### fathom/fathomref01.Var: function 77 (named slots 3) -/
def fathomref01_Var.w (l_ : Int) (w : World) (K : Value → World → Prop) : Prop :=
  cnd (decide (l_ < (0 : Int)))
  (K (.int .i64 (IntKind.i64.wrap (0 - l_))) w)
  (K (.int .i64 l_) w)
theorem fathomref01_Var.eq (l_ : Int) (w : World) (K : Value → World → Prop) : wpF Try.prog Try.f77 .leaf [.int .i64 l_] w K = fathomref01_Var.w l_ w K := by kernel_rfl
theorem fathomref01_Var.ok : fnOk Try.prog Try.f77 1 = true := by kernel_rfl
theorem fathomref01_Var.calls {l_ : Int} {w : World} {R : Ending → World → Prop} (h : fathomref01_Var.w l_ w fun v w' => R (.returned v) w') : Calls Try.prog 77 #[.int .i64 l_] w R :=
  calls_of mixed Try.func77 fathomref01_Var.ok rfl (fun K => fathomref01_Var.eq l_ w K) h

/-! ### fathom/learn.sound: function 78 (named slots 8) -/
def learn_sound.w (trail__p : Option Addr) (trail__n : Nat) (trail__c : Nat) (w : World) (K : Value → World → Prop) : Prop :=
  cnd (decide ((trail__n : Int) > (4096 : Int)))
  (K (.bool false) w)
  (∀ (n1 : Nat) (w2 : World), New (.map #[] 0) w n1 w2 → 
    ∃ I3 : Int → Int → World → Nat → Prop, (∃ k4, I3 0 0 w2 k4) ∧
    ∀ (level_6 : Int) (v7 : Int) (w8 : World) (k4 : Nat) (_ : Fr), I3 level_6 v7 w8 k4 →
    cnd (decide (v7 < (trail__n : Int)))
      (ixK trail__p trail__n v7 3 fun a9 =>
        ∃ x10 : Int, ∃ x11 : Int, ∃ x12_p : Option Addr, ∃ x12_n : Nat, ∃ x12_c : Nat, CellsAt w8 a9 0 [.int .i64 x10, .int .i64 x11, .slice x12_p x12_n x12_c] ∧ 
        ∀ (n13 : Nat) (w14 : World), New (.cells #[.int .i64 0, .int .i64 0, .slice none 0 0] 73) w8 n13 w14 → 
        ∃ w15 : World, StoreAt (Addr.mk n13 0 none) 0 [.int .i64 x10, .int .i64 x11, .slice x12_p x12_n x12_c] w14 w15 ∧ 
        ∃ x16 : Int, w15.cell? ((Addr.mk n13 0 none).add 0) = some (.int .i64 x16) ∧ 
        ∀ (n17 : Nat) (w18 : World), New (.cells #[.int .i64 x16] 3) w15 n17 w18 → 
        Calls Try.prog 30 #[.slice (some (Addr.mk n17 0 none)) 1 1] w18 fun e w19 => ∃ r20 : Int, e = .returned (.int .i64 r20) ∧ 
        cnd (r20 != (0 : Int))
        (K (.bool false) w19)
        (∃ x21 : Int, w19.cell? ((Addr.mk n13 0 none).add 0) = some (.int .i64 x21) ∧ 
        Calls Try.prog 97 #[.int .i64 x21] w19 fun e w22 => ∃ r23 : Int, e = .returned (.int .i64 r23) ∧ 
        ∃ w24 : World, ∃ r25 : Int, (Instr.lookup 82 (.map (some n1)) (.int .i64 r23) false).run Try.prog w22 = .ok (.int .i64 r25) w24 ∧ 
        cnd (decide (r25 > (0 : Int)))
        (K (.bool false) w24)
        (∃ x26 : Int, w24.cell? ((Addr.mk n13 0 none).add 1) = some (.int .i64 x26) ∧ 
        cnd (decide (x26 < level_6))
        (K (.bool false) w24)
        (∃ x27 : Int, w24.cell? ((Addr.mk n13 0 none).add 1) = some (.int .i64 x27) ∧ 
        cnd (decide (x27 > (IntKind.i64.wrap (level_6 + (1 : Int)))))
        (K (.bool false) w24)
        (∃ x28 : Int, w24.cell? ((Addr.mk n13 0 none).add 1) = some (.int .i64 x28) ∧ 
          ∃ x29_p : Option Addr, ∃ x29_n : Nat, ∃ x29_c : Nat, w24.cell? ((Addr.mk n13 0 none).add 2) = some (.slice x29_p x29_n x29_c) ∧ 
          cnd (!((decide (x28 > level_6)) == ((x29_n : Int) == (0 : Int))))
          (K (.bool false) w24)
          (cnd (!(decide (x28 > level_6)))
          (∃ x30 : Int, ∃ x31 : Int, ∃ x32_p : Option Addr, ∃ x32_n : Nat, ∃ x32_c : Nat, CellsAt w24 (Addr.mk n13 0 none) 0 [.int .i64 x30, .int .i64 x31, .slice x32_p x32_n x32_c] ∧ 
          Calls Try.prog 102 #[.slice trail__p trail__n trail__c, .map (some n1), .agg #[.int .i64 x30, .int .i64 x31, .slice x32_p x32_n x32_c]] w24 fun e w33 => ∃ r34 : Bool, e = .returned (.bool r34) ∧ 
          cnd (!r34)
          (K (.bool false) w33)
          (∃ x35 : Int, w33.cell? ((Addr.mk n13 0 none).add 0) = some (.int .i64 x35) ∧ 
            Calls Try.prog 97 #[.int .i64 x35] w33 fun e w36 => ∃ r37 : Int, e = .returned (.int .i64 r37) ∧ 
            ∃ w38 : World, (Instr.mapUpdate 82 (.map (some n1)) (.int .i64 r37) (.int .i64 (IntKind.i64.wrap (v7 + (1 : Int))))).run Try.prog w36 = .ok () w38 ∧ 
            ∃ x39 : Int, w38.cell? ((Addr.mk n13 0 none).add 1) = some (.int .i64 x39) ∧ 
            ∃ k5, k5 < k4 ∧ I3 x39 (IntKind.i64.wrap (v7 + (1 : Int))) w38 k5))
          (∃ x40 : Int, w24.cell? ((Addr.mk n13 0 none).add 0) = some (.int .i64 x40) ∧ 
          Calls Try.prog 97 #[.int .i64 x40] w24 fun e w41 => ∃ r42 : Int, e = .returned (.int .i64 r42) ∧ 
          ∃ w43 : World, (Instr.mapUpdate 82 (.map (some n1)) (.int .i64 r42) (.int .i64 (IntKind.i64.wrap (v7 + (1 : Int))))).run Try.prog w41 = .ok () w43 ∧ 
          ∃ x44 : Int, w43.cell? ((Addr.mk n13 0 none).add 1) = some (.int .i64 x44) ∧ 
          ∃ k5, k5 < k4 ∧ I3 x44 (IntKind.i64.wrap (v7 + (1 : Int))) w43 k5)))))))
      (K (.bool true) w8))
theorem learn_sound.eq (trail__p : Option Addr) (trail__n : Nat) (trail__c : Nat) (w : World) (K : Value → World → Prop) : wpF Try.prog Try.f78 (.two .leaf (.two .leaf (.two .leaf (.two .leaf (.two (.two .leaf (.one (.loop [(4, 3), (14, 3)] .leaf))) .leaf))))) [.slice trail__p trail__n trail__c] w K = learn_sound.w trail__p trail__n trail__c w K := by kernel_rfl
theorem learn_sound.ok : fnOk Try.prog Try.f78 1 = true := by kernel_rfl
theorem learn_sound.calls {trail__p : Option Addr} {trail__n : Nat} {trail__c : Nat} {w : World} {R : Ending → World → Prop} (h : learn_sound.w trail__p trail__n trail__c w fun v w' => R (.returned v) w') : Calls Try.prog 78 #[.slice trail__p trail__n trail__c] w R :=
  calls_of mixed Try.func78 learn_sound.ok rfl (fun K => learn_sound.eq trail__p trail__n trail__c w K) h

/-! ### fathom/learn.breaks: function 79 (named slots 9) -/
def learn_breaks.w (trail__p : Option Addr) (trail__n : Nat) (trail__c : Nat) (c__p : Option Addr) (c__n : Nat) (c__c : Nat) (w : World) (K : Value → World → Prop) : Prop :=
  Calls Try.prog 81 #[.slice trail__p trail__n trail__c] w fun e w1 => ∃ r2 : Option Nat, e = .returned (.map r2) ∧ 
  ∃ I3 : Int → World → Nat → Prop, (∃ k4, I3 0 w1 k4) ∧
  ∀ (v6 : Int) (w7 : World) (k4 : Nat) (_ : Fr), I3 v6 w7 k4 →
  cnd (decide (v6 < (c__n : Int)))
    (ixK c__p c__n v6 1 fun a8 =>
      ∃ x9 : Int, w7.cell? a8 = some (.int .i64 x9) ∧ 
      Calls Try.prog 97 #[.int .i64 x9] w7 fun e w10 => ∃ r11 : Int, e = .returned (.int .i64 r11) ∧ 
      ∃ w12 : World, ∃ r13 : Int, (Instr.lookup 82 (.map r2) (.int .i64 r11) false).run Try.prog w10 = .ok (.int .i64 r13) w12 ∧ 
      cnd (r13 == (0 : Int))
      (K (.bool false) w12)
      (ixK trail__p trail__n (IntKind.i64.wrap (r13 - (1 : Int))) 3 fun a14 =>
      ∃ x15 : Int, w12.cell? (a14.add 0) = some (.int .i64 x15) ∧ 
      cnd (x15 != (IntKind.i64.wrap (0 - x9)))
      (K (.bool false) w12)
      (∃ k5, k5 < k4 ∧ I3 (IntKind.i64.wrap (v6 + (1 : Int))) w12 k5)))
    (K (.bool true) w7)
theorem learn_breaks.eq (trail__p : Option Addr) (trail__n : Nat) (trail__c : Nat) (c__p : Option Addr) (c__n : Nat) (c__c : Nat) (w : World) (K : Value → World → Prop) : wpF Try.prog Try.f79 (.two .leaf (.two .leaf (.two (.two .leaf (.one (.loop [(13, 3)] .leaf))) .leaf))) [.slice trail__p trail__n trail__c, .slice c__p c__n c__c] w K = learn_breaks.w trail__p trail__n trail__c c__p c__n c__c w K := by kernel_rfl
theorem learn_breaks.ok : fnOk Try.prog Try.f79 2 = true := by kernel_rfl
theorem learn_breaks.calls {trail__p : Option Addr} {trail__n : Nat} {trail__c : Nat} {c__p : Option Addr} {c__n : Nat} {c__c : Nat} {w : World} {R : Ending → World → Prop} (h : learn_breaks.w trail__p trail__n trail__c c__p c__n c__c w fun v w' => R (.returned v) w') : Calls Try.prog 79 #[.slice trail__p trail__n trail__c, .slice c__p c__n c__c] w R :=
  calls_of mixed Try.func79 learn_breaks.ok rfl (fun K => learn_breaks.eq trail__p trail__n trail__c c__p c__n c__c w K) h

/-! ### fathom/fathomref12.May: function 80 (named slots 6) -/
def fathomref12_May.w (trail__p : Option Addr) (trail__n : Nat) (trail__c : Nat) (w : World) (K : Value → World → Prop) : Prop :=
  ∃ I1 : Int → Int → World → Nat → Prop, (∃ k2, I1 0 0 w k2) ∧
  ∀ (level_4 : Int) (i_5 : Int) (w6 : World) (k2 : Nat) (_ : Fr), I1 level_4 i_5 w6 k2 →
  cnd (decide (i_5 < (trail__n : Int)))
    (ixK trail__p trail__n i_5 3 fun a7 =>
      ∃ x8 : Int, ∃ x9 : Int, ∃ x10_p : Option Addr, ∃ x10_n : Nat, ∃ x10_c : Nat, CellsAt w6 a7 0 [.int .i64 x8, .int .i64 x9, .slice x10_p x10_n x10_c] ∧ 
      ∀ (n11 : Nat) (w12 : World), New (.cells #[.int .i64 0, .int .i64 0, .slice none 0 0] 73) w6 n11 w12 → 
      ∃ w13 : World, StoreAt (Addr.mk n11 0 none) 0 [.int .i64 x8, .int .i64 x9, .slice x10_p x10_n x10_c] w12 w13 ∧ 
      ∃ x14 : Int, w13.drew.cell? ((Addr.mk n11 0 none).add 0) = some (.int .i64 x14) ∧ 
      Calls Try.prog 55 #[.int .i64 x14] w13.drew fun e w15 => ∃ r16 : Bool, e = .returned (.bool r16) ∧ 
      cnd (!r16)
      (K (.bool false) w15)
      (slK trail__p trail__n trail__c 3 none (some i_5) none fun s17_p s17_n s17_c =>
      ∃ x18 : Int, w15.cell? ((Addr.mk n11 0 none).add 0) = some (.int .i64 x18) ∧ 
      Calls Try.prog 77 #[.int .i64 x18] w15 fun e w19 => ∃ r20 : Int, e = .returned (.int .i64 r20) ∧ 
      Calls Try.prog 96 #[.slice s17_p s17_n s17_c, .int .i64 r20] w19 fun e w21 => ∃ r22 : Int, e = .returned (.int .i64 r22) ∧ 
      cnd (decide (r22 ≥ (0 : Int)))
      (K (.bool false) w21)
      (∃ x23 : Int, w21.cell? ((Addr.mk n11 0 none).add 1) = some (.int .i64 x23) ∧ 
      cnd (decide (x23 < level_4))
      (K (.bool false) w21)
      (∃ x24 : Int, w21.cell? ((Addr.mk n11 0 none).add 1) = some (.int .i64 x24) ∧ 
      cnd (decide ((IntKind.i64.wrap (x24 - (1 : Int))) > level_4))
      (K (.bool false) w21)
      (∃ x25 : Int, w21.cell? ((Addr.mk n11 0 none).add 1) = some (.int .i64 x25) ∧ 
        cnd (decide (x25 > level_4))
        (∃ x26_p : Option Addr, ∃ x26_n : Nat, ∃ x26_c : Nat, w21.cell? ((Addr.mk n11 0 none).add 2) = some (.slice x26_p x26_n x26_c) ∧ 
          cnd (decide ((x26_n : Int) > (0 : Int)))
          (K (.bool false) w21)
          (∃ x27 : Int, w21.cell? ((Addr.mk n11 0 none).add 1) = some (.int .i64 x27) ∧ 
            ∃ k3, k3 < k2 ∧ I1 x27 (IntKind.i64.wrap (i_5 + (1 : Int))) w21 k3))
        (∃ x28_p : Option Addr, ∃ x28_n : Nat, ∃ x28_c : Nat, w21.drew.cell? ((Addr.mk n11 0 none).add 2) = some (.slice x28_p x28_n x28_c) ∧ 
          cnd (decide ((x28_n : Int) > (256 : Int)))
          (K (.bool false) w21.drew)
          (∃ x29_p : Option Addr, ∃ x29_n : Nat, ∃ x29_c : Nat, w21.drew.cell? ((Addr.mk n11 0 none).add 2) = some (.slice x29_p x29_n x29_c) ∧ 
          ∃ x30 : Int, w21.drew.cell? ((Addr.mk n11 0 none).add 0) = some (.int .i64 x30) ∧ 
          Calls Try.prog 40 #[.slice x29_p x29_n x29_c, .int .i64 x30] w21.drew fun e w31 => ∃ r32 : Bool, e = .returned (.bool r32) ∧ 
          cnd (!r32)
          (K (.bool false) w31)
          (slK trail__p trail__n trail__c 3 none (some i_5) none fun s33_p s33_n s33_c =>
          ∃ x34_p : Option Addr, ∃ x34_n : Nat, ∃ x34_c : Nat, w31.cell? ((Addr.mk n11 0 none).add 2) = some (.slice x34_p x34_n x34_c) ∧ 
          ∃ x35 : Int, w31.cell? ((Addr.mk n11 0 none).add 0) = some (.int .i64 x35) ∧ 
          Calls Try.prog 41 #[.slice x34_p x34_n x34_c, .int .i64 x35] w31 fun e w36 => ∃ r37_p : Option Addr, ∃ r37_n : Nat, ∃ r37_c : Nat, e = .returned (.slice r37_p r37_n r37_c) ∧ 
          Calls Try.prog 60 #[.slice s33_p s33_n s33_c, .slice r37_p r37_n r37_c] w36 fun e w38 => ∃ r39 : Bool, e = .returned (.bool r39) ∧ 
          cnd (!r39)
          (K (.bool false) w38)
          (∃ k3, k3 < k2 ∧ I1 level_4 (IntKind.i64.wrap (i_5 + (1 : Int))) w38 k3)))))))))
    (K (.bool (decide ((trail__n : Int) ≤ (4096 : Int)))) w6)
theorem fathomref12_May.eq (trail__p : Option Addr) (trail__n : Nat) (trail__c : Nat) (w : World) (K : Value → World → Prop) : wpF Try.prog Try.f80 (.two .leaf (.two .leaf (.two (.two .leaf (.one (.loop [(3, 3), (4, 3)] .leaf))) .leaf))) [.slice trail__p trail__n trail__c] w K = fathomref12_May.w trail__p trail__n trail__c w K := by kernel_rfl
theorem fathomref12_May.ok : fnOk Try.prog Try.f80 1 = true := by kernel_rfl
theorem fathomref12_May.calls {trail__p : Option Addr} {trail__n : Nat} {trail__c : Nat} {w : World} {R : Ending → World → Prop} (h : fathomref12_May.w trail__p trail__n trail__c w fun v w' => R (.returned v) w') : Calls Try.prog 80 #[.slice trail__p trail__n trail__c] w R :=
  calls_of mixed Try.func80 fathomref12_May.ok rfl (fun K => fathomref12_May.eq trail__p trail__n trail__c w K) h

/-! ### fathom/learn.places: function 81 (named slots 6) -/
def learn_places.w (trail__p : Option Addr) (trail__n : Nat) (trail__c : Nat) (w : World) (K : Value → World → Prop) : Prop :=
  ∀ (n1 : Nat) (w2 : World), New (.map #[] 0) w n1 w2 → 
  ∃ I3 : Int → World → Nat → Prop, (∃ k4, I3 0 w2 k4) ∧
  ∀ (v6 : Int) (w7 : World) (k4 : Nat) (_ : Fr), I3 v6 w7 k4 →
  cnd (decide (v6 < (trail__n : Int)))
    (ixK trail__p trail__n v6 3 fun a8 =>
      ∃ x9 : Int, ∃ x10 : Int, ∃ x11_p : Option Addr, ∃ x11_n : Nat, ∃ x11_c : Nat, CellsAt w7 a8 0 [.int .i64 x9, .int .i64 x10, .slice x11_p x11_n x11_c] ∧ 
      ∀ (n12 : Nat) (w13 : World), New (.cells #[.int .i64 0, .int .i64 0, .slice none 0 0] 73) w7 n12 w13 → 
      ∃ w14 : World, StoreAt (Addr.mk n12 0 none) 0 [.int .i64 x9, .int .i64 x10, .slice x11_p x11_n x11_c] w13 w14 ∧ 
      ∃ x15 : Int, w14.cell? ((Addr.mk n12 0 none).add 0) = some (.int .i64 x15) ∧ 
      Calls Try.prog 97 #[.int .i64 x15] w14 fun e w16 => ∃ r17 : Int, e = .returned (.int .i64 r17) ∧ 
      ∃ w18 : World, (Instr.mapUpdate 82 (.map (some n1)) (.int .i64 r17) (.int .i64 (IntKind.i64.wrap (v6 + (1 : Int))))).run Try.prog w16 = .ok () w18 ∧ 
      ∃ k5, k5 < k4 ∧ I3 (IntKind.i64.wrap (v6 + (1 : Int))) w18 k5)
    (K (.map (some n1)) w7)
theorem learn_places.eq (trail__p : Option Addr) (trail__n : Nat) (trail__c : Nat) (w : World) (K : Value → World → Prop) : wpF Try.prog Try.f81 (.two .leaf (.two .leaf (.two (.two .leaf (.one (.loop [(9, 3)] .leaf))) .leaf))) [.slice trail__p trail__n trail__c] w K = learn_places.w trail__p trail__n trail__c w K := by kernel_rfl
theorem learn_places.ok : fnOk Try.prog Try.f81 1 = true := by kernel_rfl
theorem learn_places.calls {trail__p : Option Addr} {trail__n : Nat} {trail__c : Nat} {w : World} {R : Ending → World → Prop} (h : learn_places.w trail__p trail__n trail__c w fun v w' => R (.returned v) w') : Calls Try.prog 81 #[.slice trail__p trail__n trail__c] w R :=
  calls_of mixed Try.func81 learn_places.ok rfl (fun K => learn_places.eq trail__p trail__n trail__c w K) h

/-! ### (*fathom/learn.study).add: function 82 (named slots 8) -/
def learn_study_add.w (s_ : Option Addr) (c__p : Option Addr) (c__n : Nat) (c__c : Nat) (but_ : Int) (w : World) (K : Value → World → Prop) : Prop :=
  ∃ I1 : Int → World → Nat → Prop, (∃ k2, I1 0 w k2) ∧
  ∀ (v4 : Int) (w5 : World) (k2 : Nat) (_ : Fr), I1 v4 w5 k2 →
  cnd (decide (v4 < (c__n : Int)))
    (ixK c__p c__n v4 1 fun a6 =>
      ∃ x7 : Int, w5.cell? a6 = some (.int .i64 x7) ∧ 
      cnd (x7 != but_)
      (∃ a8 : Addr, s_ = some a8 ∧ ∃ x9 : Option Nat, w5.cell? (a8.add 2) = some (.map x9) ∧ 
        ∃ w10 : World, (Instr.mapUpdate 84 (.map x9) (.int .i64 x7) (.bool true)).run Try.prog w5 = .ok () w10 ∧ 
        ∃ k3, k3 < k2 ∧ I1 (IntKind.i64.wrap (v4 + (1 : Int))) w10 k3)
      (∃ k3, k3 < k2 ∧ I1 (IntKind.i64.wrap (v4 + (1 : Int))) w5 k3))
    (K (.tuple #[]) w5)
theorem learn_study_add.eq (s_ : Option Addr) (c__p : Option Addr) (c__n : Nat) (c__c : Nat) (but_ : Int) (w : World) (K : Value → World → Prop) : wpF Try.prog Try.f82 (.two .leaf (.one (.loop [(10, 3)] .leaf))) [.pointer s_, .slice c__p c__n c__c, .int .i64 but_] w K = learn_study_add.w s_ c__p c__n c__c but_ w K := by kernel_rfl
theorem learn_study_add.ok : fnOk Try.prog Try.f82 3 = true := by kernel_rfl
theorem learn_study_add.calls {s_ : Option Addr} {c__p : Option Addr} {c__n : Nat} {c__c : Nat} {but_ : Int} {w : World} {R : Ending → World → Prop} (h : learn_study_add.w s_ c__p c__n c__c but_ w fun v w' => R (.returned v) w') : Calls Try.prog 82 #[.pointer s_, .slice c__p c__n c__c, .int .i64 but_] w R :=
  calls_of mixed Try.func82 learn_study_add.ok rfl (fun K => learn_study_add.eq s_ c__p c__n c__c but_ w K) h

/-! ### (*fathom/learn.study).top: function 83 (named slots 10) -/
def learn_study_top.w (s_ : Option Addr) (w : World) (K : Value → World → Prop) : Prop :=
  ∃ a1 : Addr, s_ = some a1 ∧ ∃ x2 : Option Nat, w.cell? (a1.add 2) = some (.map x2) ∧ 
  ∃ w3 : World, ∃ r4 : Option Addr, (Instr.range 84 (.map x2)).run Try.prog w = .ok (.pointer r4) w3 ∧ 
  ∃ I5 : Int → Int → Int → World → Nat → Prop, (∃ k6, I5 0 0 (-1) w3 k6) ∧
  ∀ (level_8 : Int) (n_9 : Int) (last_10 : Int) (w11 : World) (k6 : Nat) (_ : Fr), I5 level_8 n_9 last_10 w11 k6 →
  (∃ w12 : World, (Instr.next (.pointer r4) false 0).run Try.prog w11 = .ok (.tuple #[.bool false]) w12 ∧ 
    K (.tuple #[.int .i64 level_8, .int .i64 n_9, .int .i64 last_10]) w12) ∨
    (∃ w13 : World, ∃ k14 v15 : Value, (Instr.next (.pointer r4) false 0).run Try.prog w11 = .ok (.tuple #[.bool true, k14, v15]) w13 ∧ 
    ∃ w16 : World, ∃ k17 : Int, ∃ v18 : Value, (Instr.entry (.pointer r4)).run Try.prog w13 = .ok (.tuple #[.int .i64 k17, v18]) w16 ∧ 
    Calls Try.prog 93 #[.pointer s_, .int .i64 k17] w16 fun e w19 => ∃ r20 : Int, e = .returned (.int .i64 r20) ∧ 
    cnd (n_9 == (0 : Int))
    (∃ a21 : Addr, s_ = some a21 ∧ (∃ x22 : Option Nat, w19.drew.cell? (a21.add 1) = some (.map x22) ∧ 
    Calls Try.prog 97 #[.int .i64 k17] w19.drew fun e w23 => ∃ r24 : Int, e = .returned (.int .i64 r24) ∧ 
    ∃ w25 : World, ∃ r26 : Int, (Instr.lookup 82 (.map x22) (.int .i64 r24) false).run Try.prog w23 = .ok (.int .i64 r26) w25 ∧ 
    ∃ k7, k7 < k6 ∧ I5 r20 1 (IntKind.i64.wrap (r26 - (1 : Int))) w25 k7) ∧
  (Calls Try.prog 97 #[.int .i64 k17] w19.drew fun e w27 => ∃ r28 : Int, e = .returned (.int .i64 r28) ∧ 
    ∃ x29 : Option Nat, w27.cell? (a21.add 1) = some (.map x29) ∧ 
    ∃ w30 : World, ∃ r31 : Int, (Instr.lookup 82 (.map x29) (.int .i64 r28) false).run Try.prog w27 = .ok (.int .i64 r31) w30 ∧ 
    ∃ k7, k7 < k6 ∧ I5 r20 1 (IntKind.i64.wrap (r31 - (1 : Int))) w30 k7))
    (cnd (decide (r20 > level_8))
    (∃ a32 : Addr, s_ = some a32 ∧ (∃ x33 : Option Nat, w19.drew.cell? (a32.add 1) = some (.map x33) ∧ 
      Calls Try.prog 97 #[.int .i64 k17] w19.drew fun e w34 => ∃ r35 : Int, e = .returned (.int .i64 r35) ∧ 
      ∃ w36 : World, ∃ r37 : Int, (Instr.lookup 82 (.map x33) (.int .i64 r35) false).run Try.prog w34 = .ok (.int .i64 r37) w36 ∧ 
      ∃ k7, k7 < k6 ∧ I5 r20 1 (IntKind.i64.wrap (r37 - (1 : Int))) w36 k7) ∧
    (Calls Try.prog 97 #[.int .i64 k17] w19.drew fun e w38 => ∃ r39 : Int, e = .returned (.int .i64 r39) ∧ 
      ∃ x40 : Option Nat, w38.cell? (a32.add 1) = some (.map x40) ∧ 
      ∃ w41 : World, ∃ r42 : Int, (Instr.lookup 82 (.map x40) (.int .i64 r39) false).run Try.prog w38 = .ok (.int .i64 r42) w41 ∧ 
      ∃ k7, k7 < k6 ∧ I5 r20 1 (IntKind.i64.wrap (r42 - (1 : Int))) w41 k7))
    (cnd (r20 == level_8)
      (∃ a43 : Addr, s_ = some a43 ∧ (∃ x44 : Option Nat, w19.drew.cell? (a43.add 1) = some (.map x44) ∧ 
        Calls Try.prog 97 #[.int .i64 k17] w19.drew fun e w45 => ∃ r46 : Int, e = .returned (.int .i64 r46) ∧ 
        ∃ w47 : World, ∃ r48 : Int, (Instr.lookup 82 (.map x44) (.int .i64 r46) false).run Try.prog w45 = .ok (.int .i64 r48) w47 ∧ 
        ∃ k7, k7 < k6 ∧ I5 level_8 (IntKind.i64.wrap (n_9 + (1 : Int))) (imax last_10 (IntKind.i64.wrap (r48 - (1 : Int)))) w47 k7) ∧
      (Calls Try.prog 97 #[.int .i64 k17] w19.drew fun e w49 => ∃ r50 : Int, e = .returned (.int .i64 r50) ∧ 
        ∃ x51 : Option Nat, w49.cell? (a43.add 1) = some (.map x51) ∧ 
        ∃ w52 : World, ∃ r53 : Int, (Instr.lookup 82 (.map x51) (.int .i64 r50) false).run Try.prog w49 = .ok (.int .i64 r53) w52 ∧ 
        ∃ k7, k7 < k6 ∧ I5 level_8 (IntKind.i64.wrap (n_9 + (1 : Int))) (imax last_10 (IntKind.i64.wrap (r53 - (1 : Int)))) w52 k7))
      (∃ k7, k7 < k6 ∧ I5 level_8 n_9 last_10 w19 k7))))
theorem learn_study_top.eq (s_ : Option Addr) (w : World) (K : Value → World → Prop) : wpF Try.prog Try.f83 (.two .leaf (.two .leaf (.two (.two .leaf (.one (.loop [(5, 3), (6, 3), (7, 3)] .leaf))) .leaf))) [.pointer s_] w K = learn_study_top.w s_ w K := by kernel_rfl
theorem learn_study_top.ok : fnOk Try.prog Try.f83 1 = true := by kernel_rfl
theorem learn_study_top.calls {s_ : Option Addr} {w : World} {R : Ending → World → Prop} (h : learn_study_top.w s_ w fun v w' => R (.returned v) w') : Calls Try.prog 83 #[.pointer s_] w R :=
  calls_of mixed Try.func83 learn_study_top.ok rfl (fun K => learn_study_top.eq s_ w K) h

/-! ### (*fathom/learn.study).ordered: function 84 (named slots 5) -/
def learn_study_ordered.w (s_ : Option Addr) (w : World) (K : Value → World → Prop) : Prop :=
  ∀ (n1 : Nat) (w2 : World), New (.cells #[.pointer s_] 81) w n1 w2 → 
  ∃ x3 : Option Addr, w2.cell? (Addr.mk n1 0 none) = some (.pointer x3) ∧ 
  ∃ a4 : Addr, x3 = some a4 ∧ ∃ x5 : Option Nat, w2.cell? (a4.add 2) = some (.map x5) ∧ 
  ∃ w6 : World, ∃ r7 : Option Addr, (Instr.range 84 (.map x5)).run Try.prog w2 = .ok (.pointer r7) w6 ∧ 
  ∃ I8 : Option Addr → Nat → Nat → World → Nat → Prop, (∃ k9, I8 none 0 0 w6 k9) ∧
  ∀ (out_11_p : Option Addr) (out_11_n : Nat) (out_11_c : Nat) (w12 : World) (k9 : Nat) (_ : Fr), I8 out_11_p out_11_n out_11_c w12 k9 →
  (∃ w13 : World, (Instr.next (.pointer r7) false 0).run Try.prog w12 = .ok (.tuple #[.bool false]) w13 ∧ 
    Calls Try.prog 65 #[.slice out_11_p out_11_n out_11_c, .func (.func 103) #[] #[.pointer (some (Addr.mk n1 0 none))]] w13 fun e w17 => e = .returned (.tuple #[]) ∧ 
    K (.slice out_11_p out_11_n out_11_c) w17) ∨
    (∃ w14 : World, ∃ k15 v16 : Value, (Instr.next (.pointer r7) false 0).run Try.prog w12 = .ok (.tuple #[.bool true, k15, v16]) w14 ∧ 
    ∃ w18 : World, ∃ k19 : Int, ∃ v20 : Value, (Instr.entry (.pointer r7)).run Try.prog w14 = .ok (.tuple #[.int .i64 k19, v20]) w18 ∧ 
    ∀ (n21 : Nat) (w22 : World), New (.cells #[.int .i64 k19] 3) w18 n21 w22 → 
    ∃ w23 : World, ∃ r24_p : Option Addr, ∃ r24_n : Nat, ∃ r24_c : Nat, (Builtin.append_ #[26, 26] 26 #[.slice out_11_p out_11_n out_11_c, .slice (some (Addr.mk n21 0 none)) 1 1]).run Try.prog w22 = .ok (.slice r24_p r24_n r24_c) w23 ∧ 
    ∃ k10, k10 < k9 ∧ I8 r24_p r24_n r24_c w23 k10)
theorem learn_study_ordered.eq (s_ : Option Addr) (w : World) (K : Value → World → Prop) : wpF Try.prog Try.f84 (.two .leaf (.two .leaf (.two (.two .leaf (.one (.loop [(3, 26)] .leaf))) .leaf))) [.pointer s_] w K = learn_study_ordered.w s_ w K := by kernel_rfl
theorem learn_study_ordered.ok : fnOk Try.prog Try.f84 1 = true := by kernel_rfl
theorem learn_study_ordered.calls {s_ : Option Addr} {w : World} {R : Ending → World → Prop} (h : learn_study_ordered.w s_ w fun v w' => R (.returned v) w') : Calls Try.prog 84 #[.pointer s_] w R :=
  calls_of mixed Try.func84 learn_study_ordered.ok rfl (fun K => learn_study_ordered.eq s_ w K) h

/-! ### slices.EqualFunc[[][]int,[][]int,[]int,[]int]: function 85 (named slots 62) -/
def slices_EqualFunc_int_int_int_int.w (s1__p : Option Addr) (s1__n : Nat) (s1__c : Nat) (s2__p : Option Addr) (s2__n : Nat) (s2__c : Nat) (eq_f : FuncId) (eq_v : Array Value) (w : World) (K : Value → World → Prop) : Prop :=
  cnd ((s1__n : Int) != (s2__n : Int))
  (K (.bool false) w)
  (∃ I1 : Int → World → Nat → Prop, (∃ k2, I1 0 w k2) ∧
    ∀ (v4 : Int) (w5 : World) (k2 : Nat) (_ : Fr), I1 v4 w5 k2 →
    cnd (decide (v4 < (s1__n : Int)))
      (ixK s1__p s1__n v4 1 fun a6 =>
        ∃ x7_p : Option Addr, ∃ x7_n : Nat, ∃ x7_c : Nat, w5.cell? a6 = some (.slice x7_p x7_n x7_c) ∧ 
        ixK s2__p s2__n v4 1 fun a8 =>
        ∃ x9_p : Option Addr, ∃ x9_n : Nat, ∃ x9_c : Nat, w5.cell? a8 = some (.slice x9_p x9_n x9_c) ∧ 
        cnd (entB Try.prog eq_f) (Calls Try.prog eq_f (#[] ++ #[.slice x7_p x7_n x7_c, .slice x9_p x9_n x9_c] ++ eq_v) w5 fun e w10 => ∃ r11 : Bool, e = .returned (.bool r11) ∧ 
        cnd (!r11)
        (K (.bool false) w10)
        (∃ k3, k3 < k2 ∧ I1 (IntKind.i64.wrap (v4 + (1 : Int))) w10 k3)) False)
      (K (.bool true) w5))
theorem slices_EqualFunc_int_int_int_int.eq (s1__p : Option Addr) (s1__n : Nat) (s1__c : Nat) (s2__p : Option Addr) (s2__n : Nat) (s2__c : Nat) (eq_f : FuncId) (eq_v : Array Value) (w : World) (K : Value → World → Prop) : wpF Try.prog Try.f85 (.two .leaf (.two .leaf (.two (.two .leaf (.one (.loop [(17, 3)] .leaf))) .leaf))) [.slice s1__p s1__n s1__c, .slice s2__p s2__n s2__c, .func (.func eq_f) #[] eq_v] w K = slices_EqualFunc_int_int_int_int.w s1__p s1__n s1__c s2__p s2__n s2__c eq_f eq_v w K := by kernel_rfl
theorem slices_EqualFunc_int_int_int_int.ok : fnOk Try.prog Try.f85 3 = true := by kernel_rfl
theorem slices_EqualFunc_int_int_int_int.calls {s1__p : Option Addr} {s1__n : Nat} {s1__c : Nat} {s2__p : Option Addr} {s2__n : Nat} {s2__c : Nat} {eq_f : FuncId} {eq_v : Array Value} {w : World} {R : Ending → World → Prop} (h : slices_EqualFunc_int_int_int_int.w s1__p s1__n s1__c s2__p s2__n s2__c eq_f eq_v w fun v w' => R (.returned v) w') : Calls Try.prog 85 #[.slice s1__p s1__n s1__c, .slice s2__p s2__n s2__c, .func (.func eq_f) #[] eq_v] w R :=
  calls_of mixed Try.func85 slices_EqualFunc_int_int_int_int.ok rfl (fun K => slices_EqualFunc_int_int_int_int.eq s1__p s1__n s1__c s2__p s2__n s2__c eq_f eq_v w K) h

/-! ### fathom/lit.Same$1: function 86 (named slots 5) -/
def lit_Same_1.w (x0__p : Option Addr) (x0__n : Nat) (x0__c : Nat) (y__p : Option Addr) (y__n : Nat) (y__c : Nat) (w : World) (K : Value → World → Prop) : Prop :=
  Calls Try.prog 87 #[.slice x0__p x0__n x0__c, .slice y__p y__n y__c] w fun e w1 => ∃ r2 : Bool, e = .returned (.bool r2) ∧ 
  K (.bool r2) w1
theorem lit_Same_1.eq (x0__p : Option Addr) (x0__n : Nat) (x0__c : Nat) (y__p : Option Addr) (y__n : Nat) (y__c : Nat) (w : World) (K : Value → World → Prop) : wpF Try.prog Try.f86 .leaf [.slice x0__p x0__n x0__c, .slice y__p y__n y__c] w K = lit_Same_1.w x0__p x0__n x0__c y__p y__n y__c w K := by kernel_rfl
theorem lit_Same_1.ok : fnOk Try.prog Try.f86 2 = true := by kernel_rfl
theorem lit_Same_1.calls {x0__p : Option Addr} {x0__n : Nat} {x0__c : Nat} {y__p : Option Addr} {y__n : Nat} {y__c : Nat} {w : World} {R : Ending → World → Prop} (h : lit_Same_1.w x0__p x0__n x0__c y__p y__n y__c w fun v w' => R (.returned v) w') : Calls Try.prog 86 #[.slice x0__p x0__n x0__c, .slice y__p y__n y__c] w R :=
  calls_of mixed Try.func86 lit_Same_1.ok rfl (fun K => lit_Same_1.eq x0__p x0__n x0__c y__p y__n y__c w K) h

/-! ### slices.Equal[[]int,int]: function 87 (named slots 5) -/
def slices_Equal_int_int.w (s1__p : Option Addr) (s1__n : Nat) (s1__c : Nat) (s2__p : Option Addr) (s2__n : Nat) (s2__c : Nat) (w : World) (K : Value → World → Prop) : Prop :=
  cnd ((s1__n : Int) != (s2__n : Int))
  (K (.bool false) w)
  (∃ I1 : Int → World → Nat → Prop, (∃ k2, I1 0 w k2) ∧
    ∀ (v4 : Int) (w5 : World) (k2 : Nat) (_ : Fr), I1 v4 w5 k2 →
    cnd (decide (v4 < (s1__n : Int)))
      (ixK s1__p s1__n v4 1 fun a6 =>
        ∃ x7 : Int, w5.drew.cell? a6 = some (.int .i64 x7) ∧ 
        ixK s2__p s2__n v4 1 fun a8 =>
        ∃ x9 : Int, w5.drew.cell? a8 = some (.int .i64 x9) ∧ 
        cnd (x7 != x9)
        (K (.bool false) w5.drew)
        (∃ k3, k3 < k2 ∧ I1 (IntKind.i64.wrap (v4 + (1 : Int))) w5.drew k3))
      (K (.bool true) w5))
theorem slices_Equal_int_int.eq (s1__p : Option Addr) (s1__n : Nat) (s1__c : Nat) (s2__p : Option Addr) (s2__n : Nat) (s2__c : Nat) (w : World) (K : Value → World → Prop) : wpF Try.prog Try.f87 (.two .leaf (.two .leaf (.two (.two .leaf (.one (.loop [(13, 3)] .leaf))) .leaf))) [.slice s1__p s1__n s1__c, .slice s2__p s2__n s2__c] w K = slices_Equal_int_int.w s1__p s1__n s1__c s2__p s2__n s2__c w K := by kernel_rfl
theorem slices_Equal_int_int.ok : fnOk Try.prog Try.f87 2 = true := by kernel_rfl
theorem slices_Equal_int_int.calls {s1__p : Option Addr} {s1__n : Nat} {s1__c : Nat} {s2__p : Option Addr} {s2__n : Nat} {s2__c : Nat} {w : World} {R : Ending → World → Prop} (h : slices_Equal_int_int.w s1__p s1__n s1__c s2__p s2__n s2__c w fun v w' => R (.returned v) w') : Calls Try.prog 87 #[.slice s1__p s1__n s1__c, .slice s2__p s2__n s2__c] w R :=
  calls_of mixed Try.func87 slices_Equal_int_int.ok rfl (fun K => slices_Equal_int_int.eq s1__p s1__n s1__c s2__p s2__n s2__c w K) h

/-! ### fathom/fathomref01.Lists: function 88 (named slots 6) -/
def fathomref01_Lists.w (a__p : Option Addr) (a__n : Nat) (a__c : Nat) (b__p : Option Addr) (b__n : Nat) (b__c : Nat) (w : World) (K : Value → World → Prop) : Prop :=
  cnd ((a__n : Int) != (b__n : Int))
  (K (.bool false) w)
  (∃ I1 : Int → World → Nat → Prop, (∃ k2, I1 0 w k2) ∧
    ∀ (i_4 : Int) (w5 : World) (k2 : Nat) (_ : Fr), I1 i_4 w5 k2 →
    cnd (decide (i_4 < (a__n : Int)))
      (ixK a__p a__n i_4 1 fun a6 =>
        ∃ x7_p : Option Addr, ∃ x7_n : Nat, ∃ x7_c : Nat, w5.drew.cell? a6 = some (.slice x7_p x7_n x7_c) ∧ 
        ixK b__p b__n i_4 1 fun a8 =>
        ∃ x9_p : Option Addr, ∃ x9_n : Nat, ∃ x9_c : Nat, w5.drew.cell? a8 = some (.slice x9_p x9_n x9_c) ∧ 
        Calls Try.prog 31 #[.slice x7_p x7_n x7_c, .slice x9_p x9_n x9_c] w5.drew fun e w10 => ∃ r11 : Bool, e = .returned (.bool r11) ∧ 
        cnd (!r11)
        (K (.bool false) w10)
        (∃ k3, k3 < k2 ∧ I1 (IntKind.i64.wrap (i_4 + (1 : Int))) w10 k3))
      (K (.bool true) w5))
theorem fathomref01_Lists.eq (a__p : Option Addr) (a__n : Nat) (a__c : Nat) (b__p : Option Addr) (b__n : Nat) (b__c : Nat) (w : World) (K : Value → World → Prop) : wpF Try.prog Try.f88 (.two .leaf (.two .leaf (.two (.two .leaf (.one (.loop [(5, 3)] .leaf))) .leaf))) [.slice a__p a__n a__c, .slice b__p b__n b__c] w K = fathomref01_Lists.w a__p a__n a__c b__p b__n b__c w K := by kernel_rfl
theorem fathomref01_Lists.ok : fnOk Try.prog Try.f88 2 = true := by kernel_rfl
theorem fathomref01_Lists.calls {a__p : Option Addr} {a__n : Nat} {a__c : Nat} {b__p : Option Addr} {b__n : Nat} {b__c : Nat} {w : World} {R : Ending → World → Prop} (h : fathomref01_Lists.w a__p a__n a__c b__p b__n b__c w fun v w' => R (.returned v) w') : Calls Try.prog 88 #[.slice a__p a__n a__c, .slice b__p b__n b__c] w R :=
  calls_of mixed Try.func88 fathomref01_Lists.ok rfl (fun K => fathomref01_Lists.eq a__p a__n a__c b__p b__n b__c w K) h

/-! ### fathom/lit.CheckCnf$1: function 89 (named slots 4) -/
def lit_CheckCnf_1.w (l_ : Int) (c0_ : Addr) (w : World) (K : Value → World → Prop) : Prop :=
  (Calls Try.prog 76 #[.int .i64 l_] w.drew fun e w1 => ∃ r2 : Int, e = .returned (.int .i64 r2) ∧ 
  ∃ x3 : Int, w1.cell? (c0_.add 0) = some (.int .i64 x3) ∧ 
  K (.bool (decide (r2 > x3))) w1) ∧
(∃ x4 : Int, w.drew.cell? (c0_.add 0) = some (.int .i64 x4) ∧ 
  Calls Try.prog 76 #[.int .i64 l_] w.drew fun e w5 => ∃ r6 : Int, e = .returned (.int .i64 r6) ∧ 
  K (.bool (decide (r6 > x4))) w5)
theorem lit_CheckCnf_1.eq (l_ : Int) (c0_ : Addr) (w : World) (K : Value → World → Prop) : wpF Try.prog Try.f89 .leaf [.int .i64 l_, .pointer (some c0_)] w K = lit_CheckCnf_1.w l_ c0_ w K := by kernel_rfl
theorem lit_CheckCnf_1.ok : fnOk Try.prog Try.f89 2 = true := by kernel_rfl
theorem lit_CheckCnf_1.calls {l_ : Int} {c0_ : Addr} {w : World} {R : Ending → World → Prop} (h : lit_CheckCnf_1.w l_ c0_ w fun v w' => R (.returned v) w') : Calls Try.prog 89 #[.int .i64 l_, .pointer (some c0_)] w R :=
  calls_of mixed Try.func89 lit_CheckCnf_1.ok rfl (fun K => lit_CheckCnf_1.eq l_ c0_ w K) h

/-! ### fathom/fathomref12.Ordered: function 92 (named slots 9) -/
def fathomref12_Ordered.w (trail__p : Option Addr) (trail__n : Nat) (trail__c : Nat) (c__p : Option Addr) (c__n : Nat) (c__c : Nat) (w : World) (K : Value → World → Prop) : Prop :=
  ∀ (n1 : Nat) (w2 : World), New (.cells #[] 3) w n1 w2 → 
  ∃ I3 : Int → Int → World → Nat → Prop, (∃ k4, I3 0 0 w2 k4) ∧
  ∀ (level_6 : Int) (i_7 : Int) (w8 : World) (k4 : Nat) (_ : Fr), I3 level_6 i_7 w8 k4 →
  cnd (decide (i_7 < (trail__n : Int)))
    (ixK trail__p trail__n i_7 3 fun a9 =>
      ∃ x10 : Int, w8.cell? (a9.add 1) = some (.int .i64 x10) ∧ 
      cnd (decide (x10 > level_6))
      (ixK trail__p trail__n i_7 3 fun a11 =>
        ∃ x12 : Int, w8.cell? (a11.add 1) = some (.int .i64 x12) ∧ 
        ∃ k5, k5 < k4 ∧ I3 x12 (IntKind.i64.wrap (i_7 + (1 : Int))) w8 k5)
      (∃ k5, k5 < k4 ∧ I3 level_6 (IntKind.i64.wrap (i_7 + (1 : Int))) w8 k5))
    (Calls Try.prog 32 #[.slice c__p c__n c__c] w8 fun e w13 => ∃ r14_p : Option Addr, ∃ r14_n : Nat, ∃ r14_c : Nat, e = .returned (.slice r14_p r14_n r14_c) ∧ 
      ∃ I15 : Option Addr → Nat → Nat → Int → World → Nat → Prop, (∃ k16, I15 (some (Addr.mk n1 0 none)) 0 0 level_6 w13 k16) ∧
      ∀ (out_18_p : Option Addr) (out_18_n : Nat) (out_18_c : Nat) (level_19 : Int) (w20 : World) (k16 : Nat) (_ : Fr), I15 out_18_p out_18_n out_18_c level_19 w20 k16 →
      cnd (decide (level_19 ≥ (0 : Int)))
        (∃ I21 : Option Addr → Nat → Nat → Int → World → Nat → Prop, (∃ k22, I21 out_18_p out_18_n out_18_c 0 w20 k22) ∧
          ∀ (out_24_p : Option Addr) (out_24_n : Nat) (out_24_c : Nat) (i_25 : Int) (w26 : World) (k22 : Nat) (_ : Fr), I21 out_24_p out_24_n out_24_c i_25 w26 k22 →
          cnd (decide (i_25 < (r14_n : Int)))
            (ixK r14_p r14_n i_25 1 fun a27 =>
              ∃ x28 : Int, w26.cell? a27 = some (.int .i64 x28) ∧ 
              Calls Try.prog 61 #[.slice trail__p trail__n trail__c, .int .i64 x28] w26 fun e w29 => ∃ r30 : Int, e = .returned (.int .i64 r30) ∧ 
              cnd (r30 == level_19)
              (ixK r14_p r14_n i_25 1 fun a31 =>
                ∃ x32 : Int, w29.cell? a31 = some (.int .i64 x32) ∧ 
                ∀ (n33 : Nat) (w34 : World), New (.cells #[.int .i64 x32] 3) w29 n33 w34 → 
                ∃ w35 : World, ∃ r36_p : Option Addr, ∃ r36_n : Nat, ∃ r36_c : Nat, (Builtin.append_ #[26, 26] 26 #[.slice out_24_p out_24_n out_24_c, .slice (some (Addr.mk n33 0 none)) 1 1]).run Try.prog w34 = .ok (.slice r36_p r36_n r36_c) w35 ∧ 
                ∃ k23, k23 < k22 ∧ I21 r36_p r36_n r36_c (IntKind.i64.wrap (i_25 + (1 : Int))) w35 k23)
              (∃ k23, k23 < k22 ∧ I21 out_24_p out_24_n out_24_c (IntKind.i64.wrap (i_25 + (1 : Int))) w29 k23))
            (∃ k17, k17 < k16 ∧ I15 out_24_p out_24_n out_24_c (IntKind.i64.wrap (level_19 - (1 : Int))) w26 k17))
        (K (.slice out_18_p out_18_n out_18_c) w20))
theorem fathomref12_Ordered.eq (trail__p : Option Addr) (trail__n : Nat) (trail__c : Nat) (c__p : Option Addr) (c__n : Nat) (c__c : Nat) (w : World) (K : Value → World → Prop) : wpF Try.prog Try.f92 (.two .leaf (.two .leaf (.two .leaf (.two (.two .leaf (.one (.loop [(6, 3), (7, 3)] .leaf))) (.two .leaf (.two (.one (.loop [(5, 26), (6, 3)] (.two .leaf (.one (.two (.two .leaf (.one (.loop [(5, 26), (8, 3)] .leaf))) .leaf))))) .leaf)))))) [.slice trail__p trail__n trail__c, .slice c__p c__n c__c] w K = fathomref12_Ordered.w trail__p trail__n trail__c c__p c__n c__c w K := by kernel_rfl
theorem fathomref12_Ordered.ok : fnOk Try.prog Try.f92 2 = true := by kernel_rfl
theorem fathomref12_Ordered.calls {trail__p : Option Addr} {trail__n : Nat} {trail__c : Nat} {c__p : Option Addr} {c__n : Nat} {c__c : Nat} {w : World} {R : Ending → World → Prop} (h : fathomref12_Ordered.w trail__p trail__n trail__c c__p c__n c__c w fun v w' => R (.returned v) w') : Calls Try.prog 92 #[.slice trail__p trail__n trail__c, .slice c__p c__n c__c] w R :=
  calls_of mixed Try.func92 fathomref12_Ordered.ok rfl (fun K => fathomref12_Ordered.eq trail__p trail__n trail__c c__p c__n c__c w K) h

/-! ### (*fathom/learn.study).level: function 93 (named slots 5) -/
def learn_study_level.w (s_ : Option Addr) (l_ : Int) (w : World) (K : Value → World → Prop) : Prop :=
  ∃ a1 : Addr, s_ = some a1 ∧ ∃ a2 : Addr, s_ = some a2 ∧ (∃ x3_p : Option Addr, ∃ x3_n : Nat, ∃ x3_c : Nat, w.drew.cell? (a1.add 0) = some (.slice x3_p x3_n x3_c) ∧ 
  (∃ x4 : Option Nat, w.drew.cell? (a2.add 1) = some (.map x4) ∧ 
  Calls Try.prog 97 #[.int .i64 l_] w.drew fun e w5 => ∃ r6 : Int, e = .returned (.int .i64 r6) ∧ 
  ∃ w7 : World, ∃ r8 : Int, (Instr.lookup 82 (.map x4) (.int .i64 r6) false).run Try.prog w5 = .ok (.int .i64 r8) w7 ∧ 
  ixK x3_p x3_n (IntKind.i64.wrap (r8 - (1 : Int))) 3 fun a9 =>
  ∃ x10 : Int, w7.cell? (a9.add 1) = some (.int .i64 x10) ∧ 
  K (.int .i64 x10) w7) ∧
(Calls Try.prog 97 #[.int .i64 l_] w.drew fun e w11 => ∃ r12 : Int, e = .returned (.int .i64 r12) ∧ 
  ∃ x13 : Option Nat, w11.cell? (a2.add 1) = some (.map x13) ∧ 
  ∃ w14 : World, ∃ r15 : Int, (Instr.lookup 82 (.map x13) (.int .i64 r12) false).run Try.prog w11 = .ok (.int .i64 r15) w14 ∧ 
  ixK x3_p x3_n (IntKind.i64.wrap (r15 - (1 : Int))) 3 fun a16 =>
  ∃ x17 : Int, w14.cell? (a16.add 1) = some (.int .i64 x17) ∧ 
  K (.int .i64 x17) w14)) ∧
(∃ x18 : Option Nat, w.drew.cell? (a2.add 1) = some (.map x18) ∧ 
  (∃ x19_p : Option Addr, ∃ x19_n : Nat, ∃ x19_c : Nat, w.drew.cell? (a1.add 0) = some (.slice x19_p x19_n x19_c) ∧ 
  Calls Try.prog 97 #[.int .i64 l_] w.drew fun e w20 => ∃ r21 : Int, e = .returned (.int .i64 r21) ∧ 
  ∃ w22 : World, ∃ r23 : Int, (Instr.lookup 82 (.map x18) (.int .i64 r21) false).run Try.prog w20 = .ok (.int .i64 r23) w22 ∧ 
  ixK x19_p x19_n (IntKind.i64.wrap (r23 - (1 : Int))) 3 fun a24 =>
  ∃ x25 : Int, w22.cell? (a24.add 1) = some (.int .i64 x25) ∧ 
  K (.int .i64 x25) w22) ∧
(Calls Try.prog 97 #[.int .i64 l_] w.drew fun e w26 => ∃ r27 : Int, e = .returned (.int .i64 r27) ∧ 
  (∃ x28_p : Option Addr, ∃ x28_n : Nat, ∃ x28_c : Nat, w26.cell? (a1.add 0) = some (.slice x28_p x28_n x28_c) ∧ 
  ∃ w29 : World, ∃ r30 : Int, (Instr.lookup 82 (.map x18) (.int .i64 r27) false).run Try.prog w26 = .ok (.int .i64 r30) w29 ∧ 
  ixK x28_p x28_n (IntKind.i64.wrap (r30 - (1 : Int))) 3 fun a31 =>
  ∃ x32 : Int, w29.cell? (a31.add 1) = some (.int .i64 x32) ∧ 
  K (.int .i64 x32) w29) ∧
(∃ w33 : World, ∃ r34 : Int, (Instr.lookup 82 (.map x18) (.int .i64 r27) false).run Try.prog w26 = .ok (.int .i64 r34) w33 ∧ 
  ∃ x35_p : Option Addr, ∃ x35_n : Nat, ∃ x35_c : Nat, w33.cell? (a1.add 0) = some (.slice x35_p x35_n x35_c) ∧ 
  ixK x35_p x35_n (IntKind.i64.wrap (r34 - (1 : Int))) 3 fun a36 =>
  ∃ x37 : Int, w33.cell? (a36.add 1) = some (.int .i64 x37) ∧ 
  K (.int .i64 x37) w33))) ∧
(Calls Try.prog 97 #[.int .i64 l_] w.drew fun e w38 => ∃ r39 : Int, e = .returned (.int .i64 r39) ∧ 
  ∃ x40 : Option Nat, w38.cell? (a2.add 1) = some (.map x40) ∧ 
  (∃ x41_p : Option Addr, ∃ x41_n : Nat, ∃ x41_c : Nat, w38.cell? (a1.add 0) = some (.slice x41_p x41_n x41_c) ∧ 
  ∃ w42 : World, ∃ r43 : Int, (Instr.lookup 82 (.map x40) (.int .i64 r39) false).run Try.prog w38 = .ok (.int .i64 r43) w42 ∧ 
  ixK x41_p x41_n (IntKind.i64.wrap (r43 - (1 : Int))) 3 fun a44 =>
  ∃ x45 : Int, w42.cell? (a44.add 1) = some (.int .i64 x45) ∧ 
  K (.int .i64 x45) w42) ∧
(∃ w46 : World, ∃ r47 : Int, (Instr.lookup 82 (.map x40) (.int .i64 r39) false).run Try.prog w38 = .ok (.int .i64 r47) w46 ∧ 
  ∃ x48_p : Option Addr, ∃ x48_n : Nat, ∃ x48_c : Nat, w46.cell? (a1.add 0) = some (.slice x48_p x48_n x48_c) ∧ 
  ixK x48_p x48_n (IntKind.i64.wrap (r47 - (1 : Int))) 3 fun a49 =>
  ∃ x50 : Int, w46.cell? (a49.add 1) = some (.int .i64 x50) ∧ 
  K (.int .i64 x50) w46))
theorem learn_study_level.eq (s_ : Option Addr) (l_ : Int) (w : World) (K : Value → World → Prop) : wpF Try.prog Try.f93 .leaf [.pointer s_, .int .i64 l_] w K = learn_study_level.w s_ l_ w K := by kernel_rfl
theorem learn_study_level.ok : fnOk Try.prog Try.f93 2 = true := by kernel_rfl
theorem learn_study_level.calls {s_ : Option Addr} {l_ : Int} {w : World} {R : Ending → World → Prop} (h : learn_study_level.w s_ l_ w fun v w' => R (.returned v) w') : Calls Try.prog 93 #[.pointer s_, .int .i64 l_] w R :=
  calls_of mixed Try.func93 learn_study_level.ok rfl (fun K => learn_study_level.eq s_ l_ w K) h


end Go.Proofs.Ytlpmapeojecenaa.W
