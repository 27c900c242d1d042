/- The functions that the statements reach, printed as what the frame asks of them, each checked by the kernel against the loaded text. -/
import Derived.Test.YtlpmapeojecenaaProg
import Derived.Test.YtlpmapeojecenaaFwSound
namespace Go.Proofs.Ytlpmapeojecenaa.W
open Go Go.Fw Go.Proofs
set_option linter.unusedVariables false

theorem mixed : Try.prog.follows .mixedOrders = true := by kernel_rfl

abbrev fathomlaw13_ReduceKeeps.id : FuncId := 3
abbrev fathomlaw13_ReduceHalves.id : FuncId := 4
abbrev fathomlaw13_ReduceQuotas.id : FuncId := 5
abbrev fathomlaw01_LitNorms.id : FuncId := 6
abbrev fathomlaw01_LitValues.id : FuncId := 7
abbrev fathomlaw01_LitResolves.id : FuncId := 8
abbrev fathomlaw12_LearnChecks.id : FuncId := 9
abbrev fathomlaw01_LitHolds.id : FuncId := 10
abbrev fathomlaw01_LitGiven.id : FuncId := 11
abbrev fathomlaw12_LearnLearns.id : FuncId := 12
abbrev fathomlaw12_LearnTeaches.id : FuncId := 13
abbrev fathomlaw12_LearnAsserts.id : FuncId := 14
abbrev fathomlaw13_awake.id : FuncId := 15
abbrev reduce_Keep.id : FuncId := 16
abbrev reduce_Order.id : FuncId := 17
abbrev fathomref13_May.id : FuncId := 18
abbrev reduce_Check.id : FuncId := 19
abbrev fathomref13_Keep.id : FuncId := 20
abbrev fathomref13_Rank.id : FuncId := 21
abbrev fathomref13_Must.id : FuncId := 22
abbrev fathomref13_Better.id : FuncId := 23
abbrev reduce_Quota.id : FuncId := 24
abbrev reduce_Due.id : FuncId := 25
abbrev fathomref13_Quota.id : FuncId := 26
abbrev fathomlaw01_awake.id : FuncId := 27
abbrev lit_Norm.id : FuncId := 28
abbrev fathomref01_May.id : FuncId := 29
abbrev lit_Check.id : FuncId := 30
abbrev fathomref01_Ints.id : FuncId := 31
abbrev fathomref01_Order.id : FuncId := 32
abbrev fathomref01_Taut.id : FuncId := 33
abbrev lit_Within.id : FuncId := 34
abbrev lit_Value.id : FuncId := 35
abbrev fathomref01_Value.id : FuncId := 36
abbrev lit_Clause.id : FuncId := 37
abbrev fathomref01_Clause.id : FuncId := 38
abbrev lit_Resolve.id : FuncId := 39
abbrev fathomref01_Has.id : FuncId := 40
abbrev fathomref01_Without.id : FuncId := 41
abbrev fathomlaw12_light.id : FuncId := 42
abbrev fathomlaw12_awake.id : FuncId := 43
abbrev learn_Check.id : FuncId := 44
abbrev fathomlaw12_may.id : FuncId := 45
abbrev learn_Learn.id : FuncId := 46
abbrev fathomlaw01_Light.id : FuncId := 47
abbrev lit_Same.id : FuncId := 48
abbrev fathomref01_Same.id : FuncId := 49
abbrev fathomref01_Cnf.id : FuncId := 50
abbrev lit_CheckCnf.id : FuncId := 51
abbrev lit_Holds.id : FuncId := 52
abbrev fathomref01_Holds.id : FuncId := 53
abbrev lit_Given.id : FuncId := 54
abbrev fathomref01_Lit.id : FuncId := 55
abbrev fathomref01_Given.id : FuncId := 56
abbrev fathomref12_Learn.id : FuncId := 57
abbrev learn_Shorten.id : FuncId := 58
abbrev fathomref12_Shorten.id : FuncId := 59
abbrev fathomref12_Breaks.id : FuncId := 60
abbrev fathomref12_Level.id : FuncId := 61
abbrev learn_Back.id : FuncId := 62
abbrev learn_Levels.id : FuncId := 63
abbrev reduce_must.id : FuncId := 64
abbrev slices_SortFunc_int_int.id : FuncId := 65
abbrev reduce_Order_1.id : FuncId := 66
abbrev slices_Clone_int_int.id : FuncId := 67
abbrev lit_before.id : FuncId := 68
abbrev slices_Compact_int_int.id : FuncId := 69
abbrev slices_ContainsFunc_int_int.id : FuncId := 70
abbrev lit_Check_1.id : FuncId := 71
abbrev lit_is.id : FuncId := 72
abbrev fathomref01_Ahead.id : FuncId := 73
abbrev lit_Within_1.id : FuncId := 74
abbrev slices_Contains_int_int.id : FuncId := 75
abbrev lit_amount.id : FuncId := 76
abbrev fathomref01_Var.id : FuncId := 77
abbrev learn_sound.id : FuncId := 78
abbrev learn_breaks.id : FuncId := 79
abbrev fathomref12_May.id : FuncId := 80
abbrev learn_places.id : FuncId := 81
abbrev learn_study_add.id : FuncId := 82
abbrev learn_study_top.id : FuncId := 83
abbrev learn_study_ordered.id : FuncId := 84
abbrev slices_EqualFunc_int_int_int_int.id : FuncId := 85
abbrev lit_Same_1.id : FuncId := 86
abbrev slices_Equal_int_int.id : FuncId := 87
abbrev fathomref01_Lists.id : FuncId := 88
abbrev lit_CheckCnf_1.id : FuncId := 89
abbrev slices_DeleteFunc_int_int.id : FuncId := 90
abbrev lit_Given_1.id : FuncId := 91
abbrev fathomref12_Ordered.id : FuncId := 92
abbrev learn_study_level.id : FuncId := 93
abbrev learn_study_idle.id : FuncId := 94
abbrev fathomref12_Idle.id : FuncId := 95
abbrev fathomref12_At.id : FuncId := 96
abbrev learn_amount.id : FuncId := 97
abbrev slices_pdqsortCmpFunc_int.id : FuncId := 98
abbrev bits_Len.id : FuncId := 99
abbrev slices_IndexFunc_int_int.id : FuncId := 100
abbrev slices_Index_int_int.id : FuncId := 101
abbrev learn_reasoned.id : FuncId := 102
abbrev learn_study_ordered_1.id : FuncId := 103
abbrev slices_insertionSortCmpFunc_int.id : FuncId := 104
abbrev slices_heapSortCmpFunc_int.id : FuncId := 105
abbrev slices_breakPatternsCmpFunc_int.id : FuncId := 106
abbrev slices_choosePivotCmpFunc_int.id : FuncId := 107
abbrev slices_reverseRangeCmpFunc_int.id : FuncId := 108
abbrev slices_partialInsertionSortCmpFunc_int.id : FuncId := 109
abbrev slices_partitionEqualCmpFunc_int.id : FuncId := 110
abbrev slices_partitionCmpFunc_int.id : FuncId := 111
abbrev bits_Len32.id : FuncId := 112
abbrev bits_Len64.id : FuncId := 113
abbrev slices_siftDownCmpFunc_int.id : FuncId := 114
abbrev slices_nextPowerOfTwo.id : FuncId := 115
abbrev slices_xorshift_Next.id : FuncId := 116
abbrev slices_medianAdjacentCmpFunc_int.id : FuncId := 117
abbrev slices_medianCmpFunc_int.id : FuncId := 118
abbrev slices_order2CmpFunc_int.id : FuncId := 119
abbrev ty_int64 : TypeId := 2
theorem ty_int64.und : Try.prog.underlying 2 = some (.int .i64) := by kernel_rfl
theorem ty_int64.info : (Try.prog.info? 2).map (fun i => (i.zero, i.size, i.bytes)) = some (some (.int .i64 0), 1, 8) := by kernel_rfl
abbrev ty_int : TypeId := 3
theorem ty_int.und : Try.prog.underlying 3 = some (.int .i64) := by kernel_rfl
theorem ty_int.info : (Try.prog.info? 3).map (fun i => (i.zero, i.size, i.bytes)) = some (some (.int .i64 0), 1, 8) := by kernel_rfl
abbrev ty_bool : TypeId := 4
theorem ty_bool.und : Try.prog.underlying 4 = some .bool := by kernel_rfl
theorem ty_bool.info : (Try.prog.info? 4).map (fun i => (i.zero, i.size, i.bytes)) = some (some (.bool false), 1, 1) := by kernel_rfl
abbrev ty_uint8 : TypeId := 5
theorem ty_uint8.und : Try.prog.underlying 5 = some (.int .u8) := by kernel_rfl
theorem ty_uint8.info : (Try.prog.info? 5).map (fun i => (i.zero, i.size, i.bytes)) = some (some (.int .u8 0), 1, 1) := by kernel_rfl
abbrev ty_abi_BoundsErrorCode : TypeId := 6
theorem ty_abi_BoundsErrorCode.und : Try.prog.underlying 6 = some (.int .u8) := by kernel_rfl
theorem ty_abi_BoundsErrorCode.info : (Try.prog.info? 6).map (fun i => (i.zero, i.size, i.bytes)) = some (some (.int .u8 0), 1, 1) := by kernel_rfl
abbrev ty_runtime_boundsError : TypeId := 8
theorem ty_runtime_boundsError.info : (Try.prog.info? 8).map (fun i => (i.zero, i.size, i.bytes)) = some (some (.agg #[.int .i64 0, .int .i64 0, .bool false, .int .u8 0]), 4, 24) := by kernel_rfl
abbrev ty_uintptr : TypeId := 12
theorem ty_uintptr.und : Try.prog.underlying 12 = some (.int .u64) := by kernel_rfl
theorem ty_uintptr.info : (Try.prog.info? 12).map (fun i => (i.zero, i.size, i.bytes)) = some (some (.int .u64 0), 1, 8) := by kernel_rfl
abbrev ty_runtime_errorAddressString : TypeId := 14
theorem ty_runtime_errorAddressString.info : (Try.prog.info? 14).map (fun i => (i.zero, i.size, i.bytes)) = some (some (.agg #[.string (ByteArray.mk #[]), .int .u64 0]), 2, 24) := by kernel_rfl
abbrev ty_p_runtime_TypeAssertionError : TypeId := 15
theorem ty_p_runtime_TypeAssertionError.info : (Try.prog.info? 15).map (fun i => (i.zero, i.size, i.bytes)) = some (some (.pointer none), 1, 8) := by kernel_rfl
abbrev ty_p_runtime_PanicNilError : TypeId := 16
theorem ty_p_runtime_PanicNilError.info : (Try.prog.info? 16).map (fun i => (i.zero, i.size, i.bytes)) = some (some (.pointer none), 1, 8) := by kernel_rfl
abbrev ty_p_abi_Type : TypeId := 17
theorem ty_p_abi_Type.info : (Try.prog.info? 17).map (fun i => (i.zero, i.size, i.bytes)) = some (some (.pointer none), 1, 8) := by kernel_rfl
abbrev ty_maps_unhashableTypeError : TypeId := 19
theorem ty_maps_unhashableTypeError.info : (Try.prog.info? 19).map (fun i => (i.zero, i.size, i.bytes)) = some (some (.agg #[.pointer none]), 1, 8) := by kernel_rfl
abbrev ty_int32 : TypeId := 21
theorem ty_int32.und : Try.prog.underlying 21 = some (.int .i32) := by kernel_rfl
theorem ty_int32.info : (Try.prog.info? 21).map (fun i => (i.zero, i.size, i.bytes)) = some (some (.int .i32 0), 1, 4) := by kernel_rfl
abbrev ty_sl_api_Learnt : TypeId := 22
theorem ty_sl_api_Learnt.und : Try.prog.underlying 22 = some (.slice 35) := by kernel_rfl
theorem ty_sl_api_Learnt.info : (Try.prog.info? 22).map (fun i => (i.zero, i.size, i.bytes)) = some (some (.slice none 0 0), 1, 24) := by kernel_rfl
abbrev ty_sl_bool : TypeId := 24
theorem ty_sl_bool.und : Try.prog.underlying 24 = some (.slice 4) := by kernel_rfl
theorem ty_sl_bool.info : (Try.prog.info? 24).map (fun i => (i.zero, i.size, i.bytes)) = some (some (.slice none 0 0), 1, 24) := by kernel_rfl
abbrev ty_sl_int : TypeId := 26
theorem ty_sl_int.und : Try.prog.underlying 26 = some (.slice 3) := by kernel_rfl
theorem ty_sl_int.info : (Try.prog.info? 26).map (fun i => (i.zero, i.size, i.bytes)) = some (some (.slice none 0 0), 1, 24) := by kernel_rfl
abbrev ty_api_Errno : TypeId := 29
theorem ty_api_Errno.und : Try.prog.underlying 29 = some (.int .i64) := by kernel_rfl
theorem ty_api_Errno.info : (Try.prog.info? 29).map (fun i => (i.zero, i.size, i.bytes)) = some (some (.int .i64 0), 1, 8) := by kernel_rfl
abbrev ty_api_Learnt : TypeId := 35
theorem ty_api_Learnt.info : (Try.prog.info? 35).map (fun i => (i.zero, i.size, i.bytes)) = some (some (.agg #[.int .i64 0, .int .i64 0, .bool false]), 3, 24) := by kernel_rfl
abbrev ty_fathomlaw01_Point : TypeId := 49
theorem ty_fathomlaw01_Point.info : (Try.prog.info? 49).map (fun i => (i.zero, i.size, i.bytes)) = some (some (.agg #[.slice none 0 0, .int .i64 0]), 2, 32) := by kernel_rfl
abbrev ty_sl_api_Assign : TypeId := 55
theorem ty_sl_api_Assign.und : Try.prog.underlying 55 = some (.slice 73) := by kernel_rfl
theorem ty_sl_api_Assign.info : (Try.prog.info? 55).map (fun i => (i.zero, i.size, i.bytes)) = some (some (.slice none 0 0), 1, 24) := by kernel_rfl
abbrev ty_sl_sl_int : TypeId := 59
theorem ty_sl_sl_int.und : Try.prog.underlying 59 = some (.slice 26) := by kernel_rfl
theorem ty_sl_sl_int.info : (Try.prog.info? 59).map (fun i => (i.zero, i.size, i.bytes)) = some (some (.slice none 0 0), 1, 24) := by kernel_rfl
abbrev ty_api_Cnf : TypeId := 61
theorem ty_api_Cnf.info : (Try.prog.info? 61).map (fun i => (i.zero, i.size, i.bytes)) = some (some (.agg #[.int .i64 0, .slice none 0 0]), 2, 32) := by kernel_rfl
abbrev ty_api_Assign : TypeId := 73
theorem ty_api_Assign.info : (Try.prog.info? 73).map (fun i => (i.zero, i.size, i.bytes)) = some (some (.agg #[.int .i64 0, .int .i64 0, .slice none 0 0]), 3, 40) := by kernel_rfl
abbrev ty_p_learn_study : TypeId := 81
theorem ty_p_learn_study.info : (Try.prog.info? 81).map (fun i => (i.zero, i.size, i.bytes)) = some (some (.pointer none), 1, 8) := by kernel_rfl
abbrev ty_map_int_int : TypeId := 82
theorem ty_map_int_int.und : Try.prog.underlying 82 = some (.map 3 3) := by kernel_rfl
theorem ty_map_int_int.info : (Try.prog.info? 82).map (fun i => (i.zero, i.size, i.bytes)) = some (some (.map none), 1, 8) := by kernel_rfl
abbrev ty_map_int_bool : TypeId := 84
theorem ty_map_int_bool.und : Try.prog.underlying 84 = some (.map 3 4) := by kernel_rfl
theorem ty_map_int_bool.info : (Try.prog.info? 84).map (fun i => (i.zero, i.size, i.bytes)) = some (some (.map none), 1, 8) := by kernel_rfl
abbrev ty_learn_study : TypeId := 86
theorem ty_learn_study.info : (Try.prog.info? 86).map (fun i => (i.zero, i.size, i.bytes)) = some (some (.agg #[.slice none 0 0, .map none, .map none]), 3, 40) := by kernel_rfl
abbrev ty_uint : TypeId := 98
theorem ty_uint.und : Try.prog.underlying 98 = some (.int .u64) := by kernel_rfl
theorem ty_uint.info : (Try.prog.info? 98).map (fun i => (i.zero, i.size, i.bytes)) = some (some (.int .u64 0), 1, 8) := by kernel_rfl
abbrev ty_slices_sortedHint : TypeId := 103
theorem ty_slices_sortedHint.und : Try.prog.underlying 103 = some (.int .i64) := by kernel_rfl
theorem ty_slices_sortedHint.info : (Try.prog.info? 103).map (fun i => (i.zero, i.size, i.bytes)) = some (some (.int .i64 0), 1, 8) := by kernel_rfl
abbrev ty_uint32 : TypeId := 111
theorem ty_uint32.und : Try.prog.underlying 111 = some (.int .u32) := by kernel_rfl
theorem ty_uint32.info : (Try.prog.info? 111).map (fun i => (i.zero, i.size, i.bytes)) = some (some (.int .u32 0), 1, 4) := by kernel_rfl
abbrev ty_uint64 : TypeId := 113
theorem ty_uint64.und : Try.prog.underlying 113 = some (.int .u64) := by kernel_rfl
theorem ty_uint64.info : (Try.prog.info? 113).map (fun i => (i.zero, i.size, i.bytes)) = some (some (.int .u64 0), 1, 8) := by kernel_rfl
abbrev ty_slices_xorshift : TypeId := 114
theorem ty_slices_xorshift.und : Try.prog.underlying 114 = some (.int .u64) := by kernel_rfl
theorem ty_slices_xorshift.info : (Try.prog.info? 114).map (fun i => (i.zero, i.size, i.bytes)) = some (some (.int .u64 0), 1, 8) := by kernel_rfl
abbrev ty_p_int : TypeId := 118
theorem ty_p_int.info : (Try.prog.info? 118).map (fun i => (i.zero, i.size, i.bytes)) = some (some (.pointer none), 1, 8) := by kernel_rfl
abbrev ty_p_slices_xorshift : TypeId := 120
theorem ty_p_slices_xorshift.info : (Try.prog.info? 120).map (fun i => (i.zero, i.size, i.bytes)) = some (some (.pointer none), 1, 8) := by kernel_rfl
abbrev ty_runtime_TypeAssertionError : TypeId := 125
theorem ty_runtime_TypeAssertionError.info : (Try.prog.info? 125).map (fun i => (i.zero, i.size, i.bytes)) = some (some (.agg #[.pointer none, .pointer none, .pointer none, .string (ByteArray.mk #[])]), 4, 40) := by kernel_rfl
abbrev ty_runtime_PanicNilError : TypeId := 128
theorem ty_runtime_PanicNilError.info : (Try.prog.info? 128).map (fun i => (i.zero, i.size, i.bytes)) = some (some (.agg #[]), 0, 0) := by kernel_rfl
abbrev ty_abi_TFlag : TypeId := 130
theorem ty_abi_TFlag.und : Try.prog.underlying 130 = some (.int .u8) := by kernel_rfl
theorem ty_abi_TFlag.info : (Try.prog.info? 130).map (fun i => (i.zero, i.size, i.bytes)) = some (some (.int .u8 0), 1, 1) := by kernel_rfl
abbrev ty_abi_Kind : TypeId := 131
theorem ty_abi_Kind.und : Try.prog.underlying 131 = some (.int .u8) := by kernel_rfl
theorem ty_abi_Kind.info : (Try.prog.info? 131).map (fun i => (i.zero, i.size, i.bytes)) = some (some (.int .u8 0), 1, 1) := by kernel_rfl
abbrev ty_p_uint8 : TypeId := 133
theorem ty_p_uint8.info : (Try.prog.info? 133).map (fun i => (i.zero, i.size, i.bytes)) = some (some (.pointer none), 1, 8) := by kernel_rfl
abbrev ty_abi_NameOff : TypeId := 134
theorem ty_abi_NameOff.und : Try.prog.underlying 134 = some (.int .i32) := by kernel_rfl
theorem ty_abi_NameOff.info : (Try.prog.info? 134).map (fun i => (i.zero, i.size, i.bytes)) = some (some (.int .i32 0), 1, 4) := by kernel_rfl
abbrev ty_abi_TypeOff : TypeId := 135
theorem ty_abi_TypeOff.und : Try.prog.underlying 135 = some (.int .i32) := by kernel_rfl
theorem ty_abi_TypeOff.info : (Try.prog.info? 135).map (fun i => (i.zero, i.size, i.bytes)) = some (some (.int .i32 0), 1, 4) := by kernel_rfl
abbrev ty_abi_Type : TypeId := 137
theorem ty_abi_Type.info : (Try.prog.info? 137).map (fun i => (i.zero, i.size, i.bytes)) = some (some (.agg #[.int .u64 0, .int .u64 0, .int .u32 0, .int .u8 0, .int .u8 0, .int .u8 0, .int .u8 0, .nilFunc, .pointer none, .int .i32 0, .int .i32 0]), 11, 48) := by kernel_rfl
def strtab0 : ByteArray := (ByteArray.mk #[0, 1, 2, 2, 3, 3, 3, 3, 4, 4, 4, 4, 4, 4, 4, 4, 5, 5, 5, 5, 5, 5, 5, 5, 5, 5, 5, 5, 5, 5, 5, 5, 6, 6, 6, 6, 6, 6, 6, 6, 6, 6, 6, 6, 6, 6, 6, 6, 6, 6, 6, 6, 6, 6, 6, 6, 6, 6, 6, 6, 6, 6, 6, 6, 7, 7, 7, 7, 7, 7, 7, 7, 7, 7, 7, 7, 7, 7, 7, 7, 7, 7, 7, 7, 7, 7, 7, 7, 7, 7, 7, 7, 7, 7, 7, 7, 7, 7, 7, 7, 7, 7, 7, 7, 7, 7, 7, 7, 7, 7, 7, 7, 7, 7, 7, 7, 7, 7, 7, 7, 7, 7, 7, 7, 7, 7, 7, 7, 8, 8, 8, 8, 8, 8, 8, 8, 8, 8, 8, 8, 8, 8, 8, 8, 8, 8, 8, 8, 8, 8, 8, 8, 8, 8, 8, 8, 8, 8, 8, 8, 8, 8, 8, 8, 8, 8, 8, 8, 8, 8, 8, 8, 8, 8, 8, 8, 8, 8, 8, 8, 8, 8, 8, 8, 8, 8, 8, 8, 8, 8, 8, 8, 8, 8, 8, 8, 8, 8, 8, 8, 8, 8, 8, 8, 8, 8, 8, 8, 8, 8, 8, 8, 8, 8, 8, 8, 8, 8, 8, 8, 8, 8, 8, 8, 8, 8, 8, 8, 8, 8, 8, 8, 8, 8, 8, 8, 8, 8, 8, 8, 8, 8, 8, 8, 8, 8, 8, 8, 8, 8, 8, 8, 8, 8, 8, 8])

/-! ### fathom/fathomlaw01.LitNorms: function 6 (named slots 5) -/
def fathomlaw01_LitNorms.w (c__p : Option Addr) (c__n : Nat) (c__c : Nat) (w : World) (K : Value → World → Prop) : Prop :=
  cnd (decide ((c__n : Int) > (5000 : Int)))
  (Calls Try.prog 27 #[] w fun e w1 => ∃ r2 : Bool, e = .returned (.bool r2) ∧ 
    K (.bool r2) w1)
  (Calls Try.prog 28 #[.slice c__p c__n c__c] w fun e w3 => ∃ r4_p : Option Addr, ∃ r4_n : Nat, ∃ r4_c : Nat, ∃ r5 : Bool, e = .returned (.tuple #[.slice r4_p r4_n r4_c, .bool r5]) ∧ 
    Calls Try.prog 29 #[.slice c__p c__n c__c] w3 fun e w6 => ∃ r7 : Bool, e = .returned (.bool r7) ∧ 
    cnd (!r7)
    (Calls Try.prog 30 #[.slice c__p c__n c__c] w6 fun e w8 => ∃ r9 : Int, e = .returned (.int .i64 r9) ∧ 
      cnd (r9 == (1 : Int))
      (cnd ((r4_n : Int) == (0 : Int))
      (cnd (!r5)
      (Calls Try.prog 27 #[] w8 fun e w10 => ∃ r11 : Bool, e = .returned (.bool r11) ∧ 
      K (.bool r11) w10)
      (K (.bool false) w8))
      (K (.bool false) w8))
      (K (.bool false) w8))
    (cnd (decide ((c__n : Int) > (600 : Int)))
      (Calls Try.prog 30 #[.slice c__p c__n c__c] w6 fun e w12 => ∃ r13 : Int, e = .returned (.int .i64 r13) ∧ 
        cnd (r13 == (0 : Int))
        (Calls Try.prog 27 #[] w12 fun e w14 => ∃ r15 : Bool, e = .returned (.bool r15) ∧ 
        K (.bool r15) w14)
        (K (.bool false) w12))
      (Calls Try.prog 30 #[.slice c__p c__n c__c] w6 fun e w16 => ∃ r17 : Int, e = .returned (.int .i64 r17) ∧ 
        cnd (r17 == (0 : Int))
        (Calls Try.prog 32 #[.slice c__p c__n c__c] w16 fun e w18 => ∃ r19_p : Option Addr, ∃ r19_n : Nat, ∃ r19_c : Nat, e = .returned (.slice r19_p r19_n r19_c) ∧ 
        Calls Try.prog 31 #[.slice r4_p r4_n r4_c, .slice r19_p r19_n r19_c] w18 fun e w20 => ∃ r21 : Bool, e = .returned (.bool r21) ∧ 
        cnd r21
        (Calls Try.prog 33 #[.slice c__p c__n c__c] w20 fun e w22 => ∃ r23 : Bool, e = .returned (.bool r23) ∧ 
        cnd (r5 == r23)
        (Calls Try.prog 34 #[.slice r4_p r4_n r4_c, .slice c__p c__n c__c] w22 fun e w24 => ∃ r25 : Bool, e = .returned (.bool r25) ∧ 
        cnd r25
        (Calls Try.prog 34 #[.slice c__p c__n c__c, .slice r4_p r4_n r4_c] w24 fun e w26 => ∃ r27 : Bool, e = .returned (.bool r27) ∧ 
        cnd r27
        (Calls Try.prog 27 #[] w26 fun e w28 => ∃ r29 : Bool, e = .returned (.bool r29) ∧ 
        K (.bool r29) w28)
        (K (.bool false) w26))
        (K (.bool false) w24))
        (K (.bool false) w22))
        (K (.bool false) w20))
        (K (.bool false) w16))))
theorem fathomlaw01_LitNorms.eq (c__p : Option Addr) (c__n : Nat) (c__c : Nat) (w : World) (K : Value → World → Prop) : wpF Try.prog Try.f6 .leaf [.slice c__p c__n c__c] w K = fathomlaw01_LitNorms.w c__p c__n c__c w K := by kernel_rfl
theorem fathomlaw01_LitNorms.ok : fnOk Try.prog Try.f6 1 = true := by kernel_rfl
theorem fathomlaw01_LitNorms.calls {c__p : Option Addr} {c__n : Nat} {c__c : Nat} {w : World} {R : Ending → World → Prop} (h : fathomlaw01_LitNorms.w c__p c__n c__c w fun v w' => R (.returned v) w') : Calls Try.prog 6 #[.slice c__p c__n c__c] w R :=
  calls_of mixed Try.func6 fathomlaw01_LitNorms.ok rfl (fun K => fathomlaw01_LitNorms.eq c__p c__n c__c w K) h

/-! ### fathom/fathomlaw01.LitValues: function 7 (named slots 9) -/
def fathomlaw01_LitValues.w (m__p : Option Addr) (m__n : Nat) (m__c : Nat) (c__p : Option Addr) (c__n : Nat) (c__c : Nat) (l_ : Int) (w : World) (K : Value → World → Prop) : Prop :=
  cnd (decide ((c__n : Int) > (600 : Int)))
  (Calls Try.prog 27 #[] w fun e w1 => ∃ r2 : Bool, e = .returned (.bool r2) ∧ 
    K (.bool r2) w1)
  (Calls Try.prog 35 #[.slice m__p m__n m__c, .int .i64 l_] w fun e w3 => ∃ r4 : Int, e = .returned (.int .i64 r4) ∧ 
    Calls Try.prog 36 #[.slice m__p m__n m__c, .int .i64 l_] w3 fun e w5 => ∃ r6 : Int, e = .returned (.int .i64 r6) ∧ 
    cnd (r4 != r6)
    (K (.bool false) w5)
    (Calls Try.prog 29 #[.slice c__p c__n c__c] w5 fun e w7 => ∃ r8 : Bool, e = .returned (.bool r8) ∧ 
      cnd (!r8)
      (Calls Try.prog 37 #[.slice m__p m__n m__c, .slice c__p c__n c__c] w7 fun e w9 => ∃ r10 : Int, e = .returned (.int .i64 r10) ∧ 
        cnd (r10 == (0 : Int))
        (Calls Try.prog 27 #[] w9 fun e w11 => ∃ r12 : Bool, e = .returned (.bool r12) ∧ 
        K (.bool r12) w11)
        (K (.bool false) w9))
      (Calls Try.prog 28 #[.slice c__p c__n c__c] w7 fun e w13 => ∃ r14_p : Option Addr, ∃ r14_n : Nat, ∃ r14_c : Nat, ∃ r15 : Bool, e = .returned (.tuple #[.slice r14_p r14_n r14_c, .bool r15]) ∧ 
        Calls Try.prog 37 #[.slice m__p m__n m__c, .slice c__p c__n c__c] w13 fun e w16 => ∃ r17 : Int, e = .returned (.int .i64 r17) ∧ 
        Calls Try.prog 38 #[.slice m__p m__n m__c, .slice c__p c__n c__c] w16 fun e w18 => ∃ r19 : Int, e = .returned (.int .i64 r19) ∧ 
        cnd (r17 == r19)
        (Calls Try.prog 37 #[.slice m__p m__n m__c, .slice r14_p r14_n r14_c] w18 fun e w20 => ∃ r21 : Int, e = .returned (.int .i64 r21) ∧ 
        Calls Try.prog 37 #[.slice m__p m__n m__c, .slice c__p c__n c__c] w20 fun e w22 => ∃ r23 : Int, e = .returned (.int .i64 r23) ∧ 
        cnd (r21 == r23)
        (Calls Try.prog 27 #[] w22 fun e w24 => ∃ r25 : Bool, e = .returned (.bool r25) ∧ 
        K (.bool r25) w24)
        (K (.bool false) w22))
        (K (.bool false) w18))))
theorem fathomlaw01_LitValues.eq (m__p : Option Addr) (m__n : Nat) (m__c : Nat) (c__p : Option Addr) (c__n : Nat) (c__c : Nat) (l_ : Int) (w : World) (K : Value → World → Prop) : wpF Try.prog Try.f7 .leaf [.slice m__p m__n m__c, .slice c__p c__n c__c, .int .i64 l_] w K = fathomlaw01_LitValues.w m__p m__n m__c c__p c__n c__c l_ w K := by kernel_rfl
theorem fathomlaw01_LitValues.ok : fnOk Try.prog Try.f7 3 = true := by kernel_rfl
theorem fathomlaw01_LitValues.calls {m__p : Option Addr} {m__n : Nat} {m__c : Nat} {c__p : Option Addr} {c__n : Nat} {c__c : Nat} {l_ : Int} {w : World} {R : Ending → World → Prop} (h : fathomlaw01_LitValues.w m__p m__n m__c c__p c__n c__c l_ w fun v w' => R (.returned v) w') : Calls Try.prog 7 #[.slice m__p m__n m__c, .slice c__p c__n c__c, .int .i64 l_] w R :=
  calls_of mixed Try.func7 fathomlaw01_LitValues.ok rfl (fun K => fathomlaw01_LitValues.eq m__p m__n m__c c__p c__n c__c l_ w K) h

/-! ### fathom/fathomlaw01.LitResolves: function 8 (named slots 10) -/
def fathomlaw01_LitResolves.w (a__p : Option Addr) (a__n : Nat) (a__c : Nat) (b__p : Option Addr) (b__n : Nat) (b__c : Nat) (x2_0_p : Option Addr) (x2_0_n : Nat) (x2_0_c : Nat) (x2_1 : Int) (w : World) (K : Value → World → Prop) : Prop :=
  ∀ (n1 : Nat) (w2 : World), New (.cells #[.slice x2_0_p x2_0_n x2_0_c, .int .i64 x2_1] 49) w n1 w2 → 
  cnd (decide ((a__n : Int) > (600 : Int)))
  (Calls Try.prog 27 #[] w2 fun e w3 => ∃ r4 : Bool, e = .returned (.bool r4) ∧ 
  K (.bool r4) w3)
  (cnd (decide ((b__n : Int) > (600 : Int)))
  (Calls Try.prog 27 #[] w2 fun e w5 => ∃ r6 : Bool, e = .returned (.bool r6) ∧ 
    K (.bool r6) w5)
  (∃ x7 : Int, w2.cell? ((Addr.mk n1 0 none).add 1) = some (.int .i64 x7) ∧ 
    Calls Try.prog 39 #[.slice a__p a__n a__c, .slice b__p b__n b__c, .int .i64 x7] w2 fun e w8 => ∃ r9_p : Option Addr, ∃ r9_n : Nat, ∃ r9_c : Nat, ∃ r10 : Int, e = .returned (.tuple #[.slice r9_p r9_n r9_c, .int .i64 r10]) ∧ 
    Calls Try.prog 29 #[.slice a__p a__n a__c] w8 fun e w11 => ∃ r12 : Bool, e = .returned (.bool r12) ∧ 
    cnd (!r12)
    (cnd (r10 == (1 : Int))
    (cnd ((r9_n : Int) == (0 : Int))
    (Calls Try.prog 27 #[] w11 fun e w13 => ∃ r14 : Bool, e = .returned (.bool r14) ∧ 
    K (.bool r14) w13)
    (K (.bool false) w11))
    (K (.bool false) w11))
    (Calls Try.prog 29 #[.slice b__p b__n b__c] w11 fun e w15 => ∃ r16 : Bool, e = .returned (.bool r16) ∧ 
    cnd (!r16)
    (cnd (r10 == (1 : Int))
    (cnd ((r9_n : Int) == (0 : Int))
    (Calls Try.prog 27 #[] w15 fun e w17 => ∃ r18 : Bool, e = .returned (.bool r18) ∧ 
    K (.bool r18) w17)
    (K (.bool false) w15))
    (K (.bool false) w15))
    (∃ x19 : Int, w15.cell? ((Addr.mk n1 0 none).add 1) = some (.int .i64 x19) ∧ 
    cnd (decide (x19 < (1 : Int)))
    (cnd (r10 == (1 : Int))
    (cnd ((r9_n : Int) == (0 : Int))
    (Calls Try.prog 27 #[] w15 fun e w20 => ∃ r21 : Bool, e = .returned (.bool r21) ∧ 
    K (.bool r21) w20)
    (K (.bool false) w15))
    (K (.bool false) w15))
    (∃ x22 : Int, w15.cell? ((Addr.mk n1 0 none).add 1) = some (.int .i64 x22) ∧ 
    cnd (decide (x22 > (1048576 : Int)))
    (cnd (r10 == (1 : Int))
      (cnd ((r9_n : Int) == (0 : Int))
      (Calls Try.prog 27 #[] w15 fun e w23 => ∃ r24 : Bool, e = .returned (.bool r24) ∧ 
      K (.bool r24) w23)
      (K (.bool false) w15))
      (K (.bool false) w15))
    (∃ x25 : Int, w15.cell? ((Addr.mk n1 0 none).add 1) = some (.int .i64 x25) ∧ 
      Calls Try.prog 40 #[.slice a__p a__n a__c, .int .i64 x25] w15 fun e w26 => ∃ r27 : Bool, e = .returned (.bool r27) ∧ 
      cnd (!r27)
      (cnd (r10 == (4 : Int))
      (cnd ((r9_n : Int) == (0 : Int))
      (Calls Try.prog 27 #[] w26 fun e w28 => ∃ r29 : Bool, e = .returned (.bool r29) ∧ 
      K (.bool r29) w28)
      (K (.bool false) w26))
      (K (.bool false) w26))
      (∃ x30 : Int, w26.cell? ((Addr.mk n1 0 none).add 1) = some (.int .i64 x30) ∧ 
      Calls Try.prog 40 #[.slice b__p b__n b__c, .int .i64 (IntKind.i64.wrap (0 - x30))] w26 fun e w31 => ∃ r32 : Bool, e = .returned (.bool r32) ∧ 
      cnd (!r32)
      (cnd (r10 == (4 : Int))
        (cnd ((r9_n : Int) == (0 : Int))
        (Calls Try.prog 27 #[] w31 fun e w33 => ∃ r34 : Bool, e = .returned (.bool r34) ∧ 
        K (.bool r34) w33)
        (K (.bool false) w31))
        (K (.bool false) w31))
      (∀ (n35 : Nat) (w36 : World), New (.cells #[] 3) w31 n35 w36 → 
        ∃ x37 : Int, w36.cell? ((Addr.mk n1 0 none).add 1) = some (.int .i64 x37) ∧ 
        Calls Try.prog 41 #[.slice a__p a__n a__c, .int .i64 x37] w36 fun e w38 => ∃ r39_p : Option Addr, ∃ r39_n : Nat, ∃ r39_c : Nat, e = .returned (.slice r39_p r39_n r39_c) ∧ 
        ∃ w40 : World, ∃ r41_p : Option Addr, ∃ r41_n : Nat, ∃ r41_c : Nat, (Builtin.append_ #[26, 26] 26 #[.slice (some (Addr.mk n35 0 none)) 0 0, .slice r39_p r39_n r39_c]).run Try.prog w38 = .ok (.slice r41_p r41_n r41_c) w40 ∧ 
        ∃ x42 : Int, w40.cell? ((Addr.mk n1 0 none).add 1) = some (.int .i64 x42) ∧ 
        Calls Try.prog 41 #[.slice b__p b__n b__c, .int .i64 (IntKind.i64.wrap (0 - x42))] w40 fun e w43 => ∃ r44_p : Option Addr, ∃ r44_n : Nat, ∃ r44_c : Nat, e = .returned (.slice r44_p r44_n r44_c) ∧ 
        ∃ w45 : World, ∃ r46_p : Option Addr, ∃ r46_n : Nat, ∃ r46_c : Nat, (Builtin.append_ #[26, 26] 26 #[.slice r41_p r41_n r41_c, .slice r44_p r44_n r44_c]).run Try.prog w43 = .ok (.slice r46_p r46_n r46_c) w45 ∧ 
        cnd (r10 != (0 : Int))
        (K (.bool false) w45)
        (Calls Try.prog 32 #[.slice r46_p r46_n r46_c] w45 fun e w47 => ∃ r48_p : Option Addr, ∃ r48_n : Nat, ∃ r48_c : Nat, e = .returned (.slice r48_p r48_n r48_c) ∧ 
        Calls Try.prog 31 #[.slice r9_p r9_n r9_c, .slice r48_p r48_n r48_c] w47 fun e w49 => ∃ r50 : Bool, e = .returned (.bool r50) ∧ 
        cnd (!r50)
        (K (.bool false) w49)
        (∃ x51_p : Option Addr, ∃ x51_n : Nat, ∃ x51_c : Nat, w49.cell? ((Addr.mk n1 0 none).add 0) = some (.slice x51_p x51_n x51_c) ∧ 
          Calls Try.prog 38 #[.slice x51_p x51_n x51_c, .slice a__p a__n a__c] w49 fun e w52 => ∃ r53 : Int, e = .returned (.int .i64 r53) ∧ 
          cnd (r53 == (1 : Int))
          (∃ x54_p : Option Addr, ∃ x54_n : Nat, ∃ x54_c : Nat, w52.cell? ((Addr.mk n1 0 none).add 0) = some (.slice x54_p x54_n x54_c) ∧ 
          Calls Try.prog 38 #[.slice x54_p x54_n x54_c, .slice b__p b__n b__c] w52 fun e w55 => ∃ r56 : Int, e = .returned (.int .i64 r56) ∧ 
          cnd (r56 == (1 : Int))
          (∃ x57_p : Option Addr, ∃ x57_n : Nat, ∃ x57_c : Nat, w55.cell? ((Addr.mk n1 0 none).add 0) = some (.slice x57_p x57_n x57_c) ∧ 
          ∃ x58 : Int, w55.cell? ((Addr.mk n1 0 none).add 1) = some (.int .i64 x58) ∧ 
          Calls Try.prog 36 #[.slice x57_p x57_n x57_c, .int .i64 x58] w55 fun e w59 => ∃ r60 : Int, e = .returned (.int .i64 r60) ∧ 
          cnd (r60 != (0 : Int))
          (∃ x61_p : Option Addr, ∃ x61_n : Nat, ∃ x61_c : Nat, w59.cell? ((Addr.mk n1 0 none).add 0) = some (.slice x61_p x61_n x61_c) ∧ 
            Calls Try.prog 37 #[.slice x61_p x61_n x61_c, .slice r9_p r9_n r9_c] w59 fun e w62 => ∃ r63 : Int, e = .returned (.int .i64 r63) ∧ 
            cnd (r63 == (1 : Int))
            (Calls Try.prog 27 #[] w62 fun e w64 => ∃ r65 : Bool, e = .returned (.bool r65) ∧ 
            K (.bool r65) w64)
            (K (.bool false) w62))
          (Calls Try.prog 27 #[] w59 fun e w66 => ∃ r67 : Bool, e = .returned (.bool r67) ∧ 
            K (.bool r67) w66))
          (Calls Try.prog 27 #[] w55 fun e w68 => ∃ r69 : Bool, e = .returned (.bool r69) ∧ 
          K (.bool r69) w68))
          (Calls Try.prog 27 #[] w52 fun e w70 => ∃ r71 : Bool, e = .returned (.bool r71) ∧ 
          K (.bool r71) w70)))))))))))
theorem fathomlaw01_LitResolves.eq (a__p : Option Addr) (a__n : Nat) (a__c : Nat) (b__p : Option Addr) (b__n : Nat) (b__c : Nat) (x2_0_p : Option Addr) (x2_0_n : Nat) (x2_0_c : Nat) (x2_1 : Int) (w : World) (K : Value → World → Prop) : wpF Try.prog Try.f8 .leaf [.slice a__p a__n a__c, .slice b__p b__n b__c, .agg #[.slice x2_0_p x2_0_n x2_0_c, .int .i64 x2_1]] w K = fathomlaw01_LitResolves.w a__p a__n a__c b__p b__n b__c x2_0_p x2_0_n x2_0_c x2_1 w K := by kernel_rfl
theorem fathomlaw01_LitResolves.ok : fnOk Try.prog Try.f8 3 = true := by kernel_rfl
theorem fathomlaw01_LitResolves.calls {a__p : Option Addr} {a__n : Nat} {a__c : Nat} {b__p : Option Addr} {b__n : Nat} {b__c : Nat} {x2_0_p : Option Addr} {x2_0_n : Nat} {x2_0_c : Nat} {x2_1 : Int} {w : World} {R : Ending → World → Prop} (h : fathomlaw01_LitResolves.w a__p a__n a__c b__p b__n b__c x2_0_p x2_0_n x2_0_c x2_1 w fun v w' => R (.returned v) w') : Calls Try.prog 8 #[.slice a__p a__n a__c, .slice b__p b__n b__c, .agg #[.slice x2_0_p x2_0_n x2_0_c, .int .i64 x2_1]] w R :=
  calls_of mixed Try.func8 fathomlaw01_LitResolves.ok rfl (fun K => fathomlaw01_LitResolves.eq a__p a__n a__c b__p b__n b__c x2_0_p x2_0_n x2_0_c x2_1 w K) h

/-! ### fathom/fathomlaw01.LitHolds: function 10 (named slots 7) cuts [(5, 32)] -/
def fathomlaw01_LitHolds.w (f_0 : Int) (f_1_p : Option Addr) (f_1_n : Nat) (f_1_c : Nat) (g_0 : Int) (g_1_p : Option Addr) (g_1_n : Nat) (g_1_c : Nat) (m__p : Option Addr) (m__n : Nat) (m__c : Nat) (w : World) (K : Value → World → Prop) : Prop :=
  ∀ (n1 : Nat) (w2 : World), New (.cells #[.int .i64 f_0, .slice f_1_p f_1_n f_1_c] 61) w n1 w2 → 
  ∀ (n3 : Nat) (w4 : World), New (.cells #[.int .i64 g_0, .slice g_1_p g_1_n g_1_c] 61) w2 n3 w4 → 
  ∃ x5 : Int, ∃ x6_p : Option Addr, ∃ x6_n : Nat, ∃ x6_c : Nat, CellsAt w4 (Addr.mk n1 0 none) 0 [.int .i64 x5, .slice x6_p x6_n x6_c] ∧ 
  Calls Try.prog 47 #[.agg #[.int .i64 x5, .slice x6_p x6_n x6_c]] w4 fun e w7 => ∃ r8 : Bool, e = .returned (.bool r8) ∧ 
  cnd (!r8)
  (Calls Try.prog 27 #[] w7 fun e w9 => ∃ r10 : Bool, e = .returned (.bool r10) ∧ 
  K (.bool r10) w9)
  (∃ x11 : Int, ∃ x12_p : Option Addr, ∃ x12_n : Nat, ∃ x12_c : Nat, CellsAt w7 (Addr.mk n3 0 none) 0 [.int .i64 x11, .slice x12_p x12_n x12_c] ∧ 
  Calls Try.prog 47 #[.agg #[.int .i64 x11, .slice x12_p x12_n x12_c]] w7 fun e w13 => ∃ r14 : Bool, e = .returned (.bool r14) ∧ 
  cnd (!r14)
  (Calls Try.prog 27 #[] w13 fun e w15 => ∃ r16 : Bool, e = .returned (.bool r16) ∧ 
    K (.bool r16) w15)
  (∃ J17 : World → Prop, (∃ x18 : Int, ∃ x19_p : Option Addr, ∃ x19_n : Nat, ∃ x19_c : Nat, CellsAt w13.drew (Addr.mk n1 0 none) 0 [.int .i64 x18, .slice x19_p x19_n x19_c] ∧ 
    ∃ x20 : Int, ∃ x21_p : Option Addr, ∃ x21_n : Nat, ∃ x21_c : Nat, CellsAt w13.drew (Addr.mk n3 0 none) 0 [.int .i64 x20, .slice x21_p x21_n x21_c] ∧ 
    (Calls Try.prog 48 #[.agg #[.int .i64 x18, .slice x19_p x19_n x19_c], .agg #[.int .i64 x20, .slice x21_p x21_n x21_c]] w13.drew fun e w22 => ∃ r23 : Bool, e = .returned (.bool r23) ∧ 
    ∃ x24 : Int, ∃ x25_p : Option Addr, ∃ x25_n : Nat, ∃ x25_c : Nat, CellsAt w22 (Addr.mk n1 0 none) 0 [.int .i64 x24, .slice x25_p x25_n x25_c] ∧ 
    ∃ x26 : Int, ∃ x27_p : Option Addr, ∃ x27_n : Nat, ∃ x27_c : Nat, CellsAt w22 (Addr.mk n3 0 none) 0 [.int .i64 x26, .slice x27_p x27_n x27_c] ∧ 
    Calls Try.prog 49 #[.agg #[.int .i64 x24, .slice x25_p x25_n x25_c], .agg #[.int .i64 x26, .slice x27_p x27_n x27_c]] w22 fun e w28 => ∃ r29 : Bool, e = .returned (.bool r29) ∧ 
    cnd (!(r23 == r29))
    (K (.bool false) w28)
    (∃ x30 : Int, ∃ x31_p : Option Addr, ∃ x31_n : Nat, ∃ x31_c : Nat, CellsAt w28 (Addr.mk n1 0 none) 0 [.int .i64 x30, .slice x31_p x31_n x31_c] ∧ 
    ∃ x32 : Int, ∃ x33_p : Option Addr, ∃ x33_n : Nat, ∃ x33_c : Nat, CellsAt w28 (Addr.mk n1 0 none) 0 [.int .i64 x32, .slice x33_p x33_n x33_c] ∧ 
    Calls Try.prog 48 #[.agg #[.int .i64 x30, .slice x31_p x31_n x31_c], .agg #[.int .i64 x32, .slice x33_p x33_n x33_c]] w28 fun e w34 => ∃ r35 : Bool, e = .returned (.bool r35) ∧ 
    cnd (!r35)
    (K (.bool false) w34)
    (J17 w34))) ∧
  (∃ x36 : Int, ∃ x37_p : Option Addr, ∃ x37_n : Nat, ∃ x37_c : Nat, CellsAt w13.drew (Addr.mk n1 0 none) 0 [.int .i64 x36, .slice x37_p x37_n x37_c] ∧ 
    (Calls Try.prog 48 #[.agg #[.int .i64 x18, .slice x19_p x19_n x19_c], .agg #[.int .i64 x20, .slice x21_p x21_n x21_c]] w13.drew fun e w38 => ∃ r39 : Bool, e = .returned (.bool r39) ∧ 
    ∃ x40 : Int, ∃ x41_p : Option Addr, ∃ x41_n : Nat, ∃ x41_c : Nat, CellsAt w38 (Addr.mk n3 0 none) 0 [.int .i64 x40, .slice x41_p x41_n x41_c] ∧ 
    Calls Try.prog 49 #[.agg #[.int .i64 x36, .slice x37_p x37_n x37_c], .agg #[.int .i64 x40, .slice x41_p x41_n x41_c]] w38 fun e w42 => ∃ r43 : Bool, e = .returned (.bool r43) ∧ 
    cnd (!(r39 == r43))
    (K (.bool false) w42)
    (∃ x44 : Int, ∃ x45_p : Option Addr, ∃ x45_n : Nat, ∃ x45_c : Nat, CellsAt w42 (Addr.mk n1 0 none) 0 [.int .i64 x44, .slice x45_p x45_n x45_c] ∧ 
    ∃ x46 : Int, ∃ x47_p : Option Addr, ∃ x47_n : Nat, ∃ x47_c : Nat, CellsAt w42 (Addr.mk n1 0 none) 0 [.int .i64 x46, .slice x47_p x47_n x47_c] ∧ 
    Calls Try.prog 48 #[.agg #[.int .i64 x44, .slice x45_p x45_n x45_c], .agg #[.int .i64 x46, .slice x47_p x47_n x47_c]] w42 fun e w48 => ∃ r49 : Bool, e = .returned (.bool r49) ∧ 
    cnd (!r49)
    (K (.bool false) w48)
    (J17 w48))) ∧
  (∃ x50 : Int, ∃ x51_p : Option Addr, ∃ x51_n : Nat, ∃ x51_c : Nat, CellsAt w13.drew (Addr.mk n3 0 none) 0 [.int .i64 x50, .slice x51_p x51_n x51_c] ∧ 
    Calls Try.prog 48 #[.agg #[.int .i64 x18, .slice x19_p x19_n x19_c], .agg #[.int .i64 x20, .slice x21_p x21_n x21_c]] w13.drew fun e w52 => ∃ r53 : Bool, e = .returned (.bool r53) ∧ 
    Calls Try.prog 49 #[.agg #[.int .i64 x36, .slice x37_p x37_n x37_c], .agg #[.int .i64 x50, .slice x51_p x51_n x51_c]] w52 fun e w54 => ∃ r55 : Bool, e = .returned (.bool r55) ∧ 
    cnd (!(r53 == r55))
    (K (.bool false) w54)
    (∃ x56 : Int, ∃ x57_p : Option Addr, ∃ x57_n : Nat, ∃ x57_c : Nat, CellsAt w54 (Addr.mk n1 0 none) 0 [.int .i64 x56, .slice x57_p x57_n x57_c] ∧ 
    ∃ x58 : Int, ∃ x59_p : Option Addr, ∃ x59_n : Nat, ∃ x59_c : Nat, CellsAt w54 (Addr.mk n1 0 none) 0 [.int .i64 x58, .slice x59_p x59_n x59_c] ∧ 
    Calls Try.prog 48 #[.agg #[.int .i64 x56, .slice x57_p x57_n x57_c], .agg #[.int .i64 x58, .slice x59_p x59_n x59_c]] w54 fun e w60 => ∃ r61 : Bool, e = .returned (.bool r61) ∧ 
    cnd (!r61)
    (K (.bool false) w60)
    (J17 w60)))) ∧
  (∃ x62 : Int, ∃ x63_p : Option Addr, ∃ x63_n : Nat, ∃ x63_c : Nat, CellsAt w13.drew (Addr.mk n3 0 none) 0 [.int .i64 x62, .slice x63_p x63_n x63_c] ∧ 
    (Calls Try.prog 48 #[.agg #[.int .i64 x18, .slice x19_p x19_n x19_c], .agg #[.int .i64 x20, .slice x21_p x21_n x21_c]] w13.drew fun e w64 => ∃ r65 : Bool, e = .returned (.bool r65) ∧ 
    ∃ x66 : Int, ∃ x67_p : Option Addr, ∃ x67_n : Nat, ∃ x67_c : Nat, CellsAt w64 (Addr.mk n1 0 none) 0 [.int .i64 x66, .slice x67_p x67_n x67_c] ∧ 
    Calls Try.prog 49 #[.agg #[.int .i64 x66, .slice x67_p x67_n x67_c], .agg #[.int .i64 x62, .slice x63_p x63_n x63_c]] w64 fun e w68 => ∃ r69 : Bool, e = .returned (.bool r69) ∧ 
    cnd (!(r65 == r69))
    (K (.bool false) w68)
    (∃ x70 : Int, ∃ x71_p : Option Addr, ∃ x71_n : Nat, ∃ x71_c : Nat, CellsAt w68 (Addr.mk n1 0 none) 0 [.int .i64 x70, .slice x71_p x71_n x71_c] ∧ 
    ∃ x72 : Int, ∃ x73_p : Option Addr, ∃ x73_n : Nat, ∃ x73_c : Nat, CellsAt w68 (Addr.mk n1 0 none) 0 [.int .i64 x72, .slice x73_p x73_n x73_c] ∧ 
    Calls Try.prog 48 #[.agg #[.int .i64 x70, .slice x71_p x71_n x71_c], .agg #[.int .i64 x72, .slice x73_p x73_n x73_c]] w68 fun e w74 => ∃ r75 : Bool, e = .returned (.bool r75) ∧ 
    cnd (!r75)
    (K (.bool false) w74)
    (J17 w74))) ∧
  (∃ x76 : Int, ∃ x77_p : Option Addr, ∃ x77_n : Nat, ∃ x77_c : Nat, CellsAt w13.drew (Addr.mk n1 0 none) 0 [.int .i64 x76, .slice x77_p x77_n x77_c] ∧ 
    Calls Try.prog 48 #[.agg #[.int .i64 x18, .slice x19_p x19_n x19_c], .agg #[.int .i64 x20, .slice x21_p x21_n x21_c]] w13.drew fun e w78 => ∃ r79 : Bool, e = .returned (.bool r79) ∧ 
    Calls Try.prog 49 #[.agg #[.int .i64 x76, .slice x77_p x77_n x77_c], .agg #[.int .i64 x62, .slice x63_p x63_n x63_c]] w78 fun e w80 => ∃ r81 : Bool, e = .returned (.bool r81) ∧ 
    cnd (!(r79 == r81))
    (K (.bool false) w80)
    (∃ x82 : Int, ∃ x83_p : Option Addr, ∃ x83_n : Nat, ∃ x83_c : Nat, CellsAt w80 (Addr.mk n1 0 none) 0 [.int .i64 x82, .slice x83_p x83_n x83_c] ∧ 
    ∃ x84 : Int, ∃ x85_p : Option Addr, ∃ x85_n : Nat, ∃ x85_c : Nat, CellsAt w80 (Addr.mk n1 0 none) 0 [.int .i64 x84, .slice x85_p x85_n x85_c] ∧ 
    Calls Try.prog 48 #[.agg #[.int .i64 x82, .slice x83_p x83_n x83_c], .agg #[.int .i64 x84, .slice x85_p x85_n x85_c]] w80 fun e w86 => ∃ r87 : Bool, e = .returned (.bool r87) ∧ 
    cnd (!r87)
    (K (.bool false) w86)
    (J17 w86))))) ∧
    ∀ (w88 : World) (_ : Fr), J17 w88 → 
    ∃ x89 : Int, ∃ x90_p : Option Addr, ∃ x90_n : Nat, ∃ x90_c : Nat, CellsAt w88 (Addr.mk n1 0 none) 0 [.int .i64 x89, .slice x90_p x90_n x90_c] ∧ 
    Calls Try.prog 50 #[.agg #[.int .i64 x89, .slice x90_p x90_n x90_c]] w88 fun e w91 => ∃ r92 : Bool, e = .returned (.bool r92) ∧ 
    cnd (!r92)
    (∃ x93 : Int, ∃ x94_p : Option Addr, ∃ x94_n : Nat, ∃ x94_c : Nat, CellsAt w91 (Addr.mk n1 0 none) 0 [.int .i64 x93, .slice x94_p x94_n x94_c] ∧ 
      Calls Try.prog 51 #[.agg #[.int .i64 x93, .slice x94_p x94_n x94_c]] w91 fun e w95 => ∃ r96 : Int, e = .returned (.int .i64 r96) ∧ 
      cnd (r96 == (1 : Int))
      (∃ x97 : Int, ∃ x98_p : Option Addr, ∃ x98_n : Nat, ∃ x98_c : Nat, CellsAt w95 (Addr.mk n1 0 none) 0 [.int .i64 x97, .slice x98_p x98_n x98_c] ∧ 
      Calls Try.prog 52 #[.agg #[.int .i64 x97, .slice x98_p x98_n x98_c], .slice m__p m__n m__c] w95 fun e w99 => ∃ r100 : Bool, e = .returned (.bool r100) ∧ 
      cnd (!r100)
      (Calls Try.prog 27 #[] w99 fun e w101 => ∃ r102 : Bool, e = .returned (.bool r102) ∧ 
      K (.bool r102) w101)
      (K (.bool false) w99))
      (K (.bool false) w95))
    (∃ x103 : Int, ∃ x104_p : Option Addr, ∃ x104_n : Nat, ∃ x104_c : Nat, CellsAt w91.drew (Addr.mk n1 0 none) 0 [.int .i64 x103, .slice x104_p x104_n x104_c] ∧ 
      Calls Try.prog 51 #[.agg #[.int .i64 x103, .slice x104_p x104_n x104_c]] w91.drew fun e w105 => ∃ r106 : Int, e = .returned (.int .i64 r106) ∧ 
      cnd (r106 == (0 : Int))
      (∃ x107 : Int, ∃ x108_p : Option Addr, ∃ x108_n : Nat, ∃ x108_c : Nat, CellsAt w105 (Addr.mk n1 0 none) 0 [.int .i64 x107, .slice x108_p x108_n x108_c] ∧ 
      (Calls Try.prog 52 #[.agg #[.int .i64 x107, .slice x108_p x108_n x108_c], .slice m__p m__n m__c] w105 fun e w109 => ∃ r110 : Bool, e = .returned (.bool r110) ∧ 
      ∃ x111 : Int, ∃ x112_p : Option Addr, ∃ x112_n : Nat, ∃ x112_c : Nat, CellsAt w109 (Addr.mk n1 0 none) 0 [.int .i64 x111, .slice x112_p x112_n x112_c] ∧ 
      Calls Try.prog 53 #[.agg #[.int .i64 x111, .slice x112_p x112_n x112_c], .slice m__p m__n m__c] w109 fun e w113 => ∃ r114 : Bool, e = .returned (.bool r114) ∧ 
      cnd (r110 == r114)
      (Calls Try.prog 27 #[] w113 fun e w115 => ∃ r116 : Bool, e = .returned (.bool r116) ∧ 
      K (.bool r116) w115)
      (K (.bool false) w113)) ∧
    (∃ x117 : Int, ∃ x118_p : Option Addr, ∃ x118_n : Nat, ∃ x118_c : Nat, CellsAt w105 (Addr.mk n1 0 none) 0 [.int .i64 x117, .slice x118_p x118_n x118_c] ∧ 
      Calls Try.prog 52 #[.agg #[.int .i64 x107, .slice x108_p x108_n x108_c], .slice m__p m__n m__c] w105 fun e w119 => ∃ r120 : Bool, e = .returned (.bool r120) ∧ 
      Calls Try.prog 53 #[.agg #[.int .i64 x117, .slice x118_p x118_n x118_c], .slice m__p m__n m__c] w119 fun e w121 => ∃ r122 : Bool, e = .returned (.bool r122) ∧ 
      cnd (r120 == r122)
      (Calls Try.prog 27 #[] w121 fun e w123 => ∃ r124 : Bool, e = .returned (.bool r124) ∧ 
      K (.bool r124) w123)
      (K (.bool false) w121)))
      ((K (.bool false) w105) ∧
    (K (.bool false) w105)))))
theorem fathomlaw01_LitHolds.eq (f_0 : Int) (f_1_p : Option Addr) (f_1_n : Nat) (f_1_c : Nat) (g_0 : Int) (g_1_p : Option Addr) (g_1_n : Nat) (g_1_c : Nat) (m__p : Option Addr) (m__n : Nat) (m__c : Nat) (w : World) (K : Value → World → Prop) : wpF Try.prog Try.f10 (.two .leaf (.two .leaf (.cut [] .leaf .leaf))) [.agg #[.int .i64 f_0, .slice f_1_p f_1_n f_1_c], .agg #[.int .i64 g_0, .slice g_1_p g_1_n g_1_c], .slice m__p m__n m__c] w K = fathomlaw01_LitHolds.w f_0 f_1_p f_1_n f_1_c g_0 g_1_p g_1_n g_1_c m__p m__n m__c w K := by kernel_rfl
theorem fathomlaw01_LitHolds.ok : fnOk Try.prog Try.f10 3 = true := by kernel_rfl
theorem fathomlaw01_LitHolds.calls {f_0 : Int} {f_1_p : Option Addr} {f_1_n : Nat} {f_1_c : Nat} {g_0 : Int} {g_1_p : Option Addr} {g_1_n : Nat} {g_1_c : Nat} {m__p : Option Addr} {m__n : Nat} {m__c : Nat} {w : World} {R : Ending → World → Prop} (h : fathomlaw01_LitHolds.w f_0 f_1_p f_1_n f_1_c g_0 g_1_p g_1_n g_1_c m__p m__n m__c w fun v w' => R (.returned v) w') : Calls Try.prog 10 #[.agg #[.int .i64 f_0, .slice f_1_p f_1_n f_1_c], .agg #[.int .i64 g_0, .slice g_1_p g_1_n g_1_c], .slice m__p m__n m__c] w R :=
  calls_of mixed Try.func10 fathomlaw01_LitHolds.ok rfl (fun K => fathomlaw01_LitHolds.eq f_0 f_1_p f_1_n f_1_c g_0 g_1_p g_1_n g_1_c m__p m__n m__c w K) h

/-! ### fathom/fathomlaw01.LitGiven: function 11 (named slots 8) -/
def fathomlaw01_LitGiven.w (f_0 : Int) (f_1_p : Option Addr) (f_1_n : Nat) (f_1_c : Nat) (l_ : Int) (m__p : Option Addr) (m__n : Nat) (m__c : Nat) (w : World) (K : Value → World → Prop) : Prop :=
  ∀ (n1 : Nat) (w2 : World), New (.cells #[.int .i64 f_0, .slice f_1_p f_1_n f_1_c] 61) w n1 w2 → 
  ∃ x3 : Int, ∃ x4_p : Option Addr, ∃ x4_n : Nat, ∃ x4_c : Nat, CellsAt w2 (Addr.mk n1 0 none) 0 [.int .i64 x3, .slice x4_p x4_n x4_c] ∧ 
  Calls Try.prog 47 #[.agg #[.int .i64 x3, .slice x4_p x4_n x4_c]] w2 fun e w5 => ∃ r6 : Bool, e = .returned (.bool r6) ∧ 
  cnd (!r6)
  (Calls Try.prog 27 #[] w5 fun e w7 => ∃ r8 : Bool, e = .returned (.bool r8) ∧ 
    K (.bool r8) w7)
  (∃ x9 : Int, ∃ x10_p : Option Addr, ∃ x10_n : Nat, ∃ x10_c : Nat, CellsAt w5 (Addr.mk n1 0 none) 0 [.int .i64 x9, .slice x10_p x10_n x10_c] ∧ 
    Calls Try.prog 54 #[.agg #[.int .i64 x9, .slice x10_p x10_n x10_c], .int .i64 l_] w5 fun e w11 => ∃ r12 : Int, ∃ r13_p : Option Addr, ∃ r13_n : Nat, ∃ r13_c : Nat, e = .returned (.agg #[.int .i64 r12, .slice r13_p r13_n r13_c]) ∧ 
    ∀ (n14 : Nat) (w15 : World), New (.cells #[.int .i64 0, .slice none 0 0] 61) w11 n14 w15 → 
    ∃ w16 : World, StoreAt (Addr.mk n14 0 none) 0 [.int .i64 r12, .slice r13_p r13_n r13_c] w15 w16 ∧ 
    ∃ x17 : Int, ∃ x18_p : Option Addr, ∃ x18_n : Nat, ∃ x18_c : Nat, CellsAt w16 (Addr.mk n1 0 none) 0 [.int .i64 x17, .slice x18_p x18_n x18_c] ∧ 
    Calls Try.prog 50 #[.agg #[.int .i64 x17, .slice x18_p x18_n x18_c]] w16 fun e w19 => ∃ r20 : Bool, e = .returned (.bool r20) ∧ 
    cnd (!r20)
    (∃ x21 : Int, ∃ x22_p : Option Addr, ∃ x22_n : Nat, ∃ x22_c : Nat, CellsAt w19 (Addr.mk n14 0 none) 0 [.int .i64 x21, .slice x22_p x22_n x22_c] ∧ 
      Calls Try.prog 49 #[.agg #[.int .i64 x21, .slice x22_p x22_n x22_c], .agg #[.int .i64 0, .slice none 0 0]] w19 fun e w23 => ∃ r24 : Bool, e = .returned (.bool r24) ∧ 
      cnd r24
      (Calls Try.prog 27 #[] w23 fun e w25 => ∃ r26 : Bool, e = .returned (.bool r26) ∧ 
      K (.bool r26) w25)
      (K (.bool false) w23))
    (Calls Try.prog 55 #[.int .i64 l_] w19 fun e w27 => ∃ r28 : Bool, e = .returned (.bool r28) ∧ 
      cnd (!r28)
      (∃ x29 : Int, ∃ x30_p : Option Addr, ∃ x30_n : Nat, ∃ x30_c : Nat, CellsAt w27 (Addr.mk n14 0 none) 0 [.int .i64 x29, .slice x30_p x30_n x30_c] ∧ 
        ∃ x31 : Int, ∃ x32_p : Option Addr, ∃ x32_n : Nat, ∃ x32_c : Nat, CellsAt w27 (Addr.mk n1 0 none) 0 [.int .i64 x31, .slice x32_p x32_n x32_c] ∧ 
        Calls Try.prog 49 #[.agg #[.int .i64 x29, .slice x30_p x30_n x30_c], .agg #[.int .i64 x31, .slice x32_p x32_n x32_c]] w27 fun e w33 => ∃ r34 : Bool, e = .returned (.bool r34) ∧ 
        cnd r34
        (Calls Try.prog 27 #[] w33 fun e w35 => ∃ r36 : Bool, e = .returned (.bool r36) ∧ 
        K (.bool r36) w35)
        (K (.bool false) w33))
      (∃ x37 : Int, ∃ x38_p : Option Addr, ∃ x38_n : Nat, ∃ x38_c : Nat, CellsAt w27.drew (Addr.mk n1 0 none) 0 [.int .i64 x37, .slice x38_p x38_n x38_c] ∧ 
        (∃ x39 : Int, ∃ x40_p : Option Addr, ∃ x40_n : Nat, ∃ x40_c : Nat, CellsAt w27.drew (Addr.mk n14 0 none) 0 [.int .i64 x39, .slice x40_p x40_n x40_c] ∧ 
        Calls Try.prog 56 #[.agg #[.int .i64 x37, .slice x38_p x38_n x38_c], .int .i64 l_] w27.drew fun e w41 => ∃ r42 : Int, ∃ r43_p : Option Addr, ∃ r43_n : Nat, ∃ r43_c : Nat, e = .returned (.agg #[.int .i64 r42, .slice r43_p r43_n r43_c]) ∧ 
        Calls Try.prog 49 #[.agg #[.int .i64 x39, .slice x40_p x40_n x40_c], .agg #[.int .i64 r42, .slice r43_p r43_n r43_c]] w41 fun e w44 => ∃ r45 : Bool, e = .returned (.bool r45) ∧ 
        cnd (!r45)
        (K (.bool false) w44)
        (Calls Try.prog 36 #[.slice m__p m__n m__c, .int .i64 l_] w44.drew fun e w46 => ∃ r47 : Int, e = .returned (.int .i64 r47) ∧ 
          cnd (r47 != (1 : Int))
          ((Calls Try.prog 27 #[] w46 fun e w48 => ∃ r49 : Bool, e = .returned (.bool r49) ∧ 
          K (.bool r49) w48) ∧
        (Calls Try.prog 27 #[] w46 fun e w50 => ∃ r51 : Bool, e = .returned (.bool r51) ∧ 
          K (.bool r51) w50))
          (∃ x52 : Int, ∃ x53_p : Option Addr, ∃ x53_n : Nat, ∃ x53_c : Nat, CellsAt w46 (Addr.mk n1 0 none) 0 [.int .i64 x52, .slice x53_p x53_n x53_c] ∧ 
          (Calls Try.prog 52 #[.agg #[.int .i64 x52, .slice x53_p x53_n x53_c], .slice m__p m__n m__c] w46 fun e w54 => ∃ r55 : Bool, e = .returned (.bool r55) ∧ 
          ∃ x56 : Int, ∃ x57_p : Option Addr, ∃ x57_n : Nat, ∃ x57_c : Nat, CellsAt w54 (Addr.mk n14 0 none) 0 [.int .i64 x56, .slice x57_p x57_n x57_c] ∧ 
          Calls Try.prog 52 #[.agg #[.int .i64 x56, .slice x57_p x57_n x57_c], .slice m__p m__n m__c] w54 fun e w58 => ∃ r59 : Bool, e = .returned (.bool r59) ∧ 
          cnd (r55 == r59)
          (Calls Try.prog 27 #[] w58 fun e w60 => ∃ r61 : Bool, e = .returned (.bool r61) ∧ 
          K (.bool r61) w60)
          (K (.bool false) w58)) ∧
        (∃ x62 : Int, ∃ x63_p : Option Addr, ∃ x63_n : Nat, ∃ x63_c : Nat, CellsAt w46 (Addr.mk n14 0 none) 0 [.int .i64 x62, .slice x63_p x63_n x63_c] ∧ 
          Calls Try.prog 52 #[.agg #[.int .i64 x52, .slice x53_p x53_n x53_c], .slice m__p m__n m__c] w46 fun e w64 => ∃ r65 : Bool, e = .returned (.bool r65) ∧ 
          Calls Try.prog 52 #[.agg #[.int .i64 x62, .slice x63_p x63_n x63_c], .slice m__p m__n m__c] w64 fun e w66 => ∃ r67 : Bool, e = .returned (.bool r67) ∧ 
          cnd (r65 == r67)
          (Calls Try.prog 27 #[] w66 fun e w68 => ∃ r69 : Bool, e = .returned (.bool r69) ∧ 
          K (.bool r69) w68)
          (K (.bool false) w66))))) ∧
      (Calls Try.prog 56 #[.agg #[.int .i64 x37, .slice x38_p x38_n x38_c], .int .i64 l_] w27.drew fun e w70 => ∃ r71 : Int, ∃ r72_p : Option Addr, ∃ r72_n : Nat, ∃ r72_c : Nat, e = .returned (.agg #[.int .i64 r71, .slice r72_p r72_n r72_c]) ∧ 
        ∃ x73 : Int, ∃ x74_p : Option Addr, ∃ x74_n : Nat, ∃ x74_c : Nat, CellsAt w70 (Addr.mk n14 0 none) 0 [.int .i64 x73, .slice x74_p x74_n x74_c] ∧ 
        Calls Try.prog 49 #[.agg #[.int .i64 x73, .slice x74_p x74_n x74_c], .agg #[.int .i64 r71, .slice r72_p r72_n r72_c]] w70 fun e w75 => ∃ r76 : Bool, e = .returned (.bool r76) ∧ 
        cnd (!r76)
        (K (.bool false) w75)
        (Calls Try.prog 36 #[.slice m__p m__n m__c, .int .i64 l_] w75.drew fun e w77 => ∃ r78 : Int, e = .returned (.int .i64 r78) ∧ 
          cnd (r78 != (1 : Int))
          ((Calls Try.prog 27 #[] w77 fun e w79 => ∃ r80 : Bool, e = .returned (.bool r80) ∧ 
          K (.bool r80) w79) ∧
        (Calls Try.prog 27 #[] w77 fun e w81 => ∃ r82 : Bool, e = .returned (.bool r82) ∧ 
          K (.bool r82) w81))
          (∃ x83 : Int, ∃ x84_p : Option Addr, ∃ x84_n : Nat, ∃ x84_c : Nat, CellsAt w77 (Addr.mk n1 0 none) 0 [.int .i64 x83, .slice x84_p x84_n x84_c] ∧ 
          (Calls Try.prog 52 #[.agg #[.int .i64 x83, .slice x84_p x84_n x84_c], .slice m__p m__n m__c] w77 fun e w85 => ∃ r86 : Bool, e = .returned (.bool r86) ∧ 
          ∃ x87 : Int, ∃ x88_p : Option Addr, ∃ x88_n : Nat, ∃ x88_c : Nat, CellsAt w85 (Addr.mk n14 0 none) 0 [.int .i64 x87, .slice x88_p x88_n x88_c] ∧ 
          Calls Try.prog 52 #[.agg #[.int .i64 x87, .slice x88_p x88_n x88_c], .slice m__p m__n m__c] w85 fun e w89 => ∃ r90 : Bool, e = .returned (.bool r90) ∧ 
          cnd (r86 == r90)
          (Calls Try.prog 27 #[] w89 fun e w91 => ∃ r92 : Bool, e = .returned (.bool r92) ∧ 
          K (.bool r92) w91)
          (K (.bool false) w89)) ∧
        (∃ x93 : Int, ∃ x94_p : Option Addr, ∃ x94_n : Nat, ∃ x94_c : Nat, CellsAt w77 (Addr.mk n14 0 none) 0 [.int .i64 x93, .slice x94_p x94_n x94_c] ∧ 
          Calls Try.prog 52 #[.agg #[.int .i64 x83, .slice x84_p x84_n x84_c], .slice m__p m__n m__c] w77 fun e w95 => ∃ r96 : Bool, e = .returned (.bool r96) ∧ 
          Calls Try.prog 52 #[.agg #[.int .i64 x93, .slice x94_p x94_n x94_c], .slice m__p m__n m__c] w95 fun e w97 => ∃ r98 : Bool, e = .returned (.bool r98) ∧ 
          cnd (r96 == r98)
          (Calls Try.prog 27 #[] w97 fun e w99 => ∃ r100 : Bool, e = .returned (.bool r100) ∧ 
          K (.bool r100) w99)
          (K (.bool false) w97))))))))
theorem fathomlaw01_LitGiven.eq (f_0 : Int) (f_1_p : Option Addr) (f_1_n : Nat) (f_1_c : Nat) (l_ : Int) (m__p : Option Addr) (m__n : Nat) (m__c : Nat) (w : World) (K : Value → World → Prop) : wpF Try.prog Try.f11 .leaf [.agg #[.int .i64 f_0, .slice f_1_p f_1_n f_1_c], .int .i64 l_, .slice m__p m__n m__c] w K = fathomlaw01_LitGiven.w f_0 f_1_p f_1_n f_1_c l_ m__p m__n m__c w K := by kernel_rfl
theorem fathomlaw01_LitGiven.ok : fnOk Try.prog Try.f11 3 = true := by kernel_rfl
theorem fathomlaw01_LitGiven.calls {f_0 : Int} {f_1_p : Option Addr} {f_1_n : Nat} {f_1_c : Nat} {l_ : Int} {m__p : Option Addr} {m__n : Nat} {m__c : Nat} {w : World} {R : Ending → World → Prop} (h : fathomlaw01_LitGiven.w f_0 f_1_p f_1_n f_1_c l_ m__p m__n m__c w fun v w' => R (.returned v) w') : Calls Try.prog 11 #[.agg #[.int .i64 f_0, .slice f_1_p f_1_n f_1_c], .int .i64 l_, .slice m__p m__n m__c] w R :=
  calls_of mixed Try.func11 fathomlaw01_LitGiven.ok rfl (fun K => fathomlaw01_LitGiven.eq f_0 f_1_p f_1_n f_1_c l_ m__p m__n m__c w K) h

/-! ### fathom/fathomlaw01.awake: function 27 (named slots 5) -/
def fathomlaw01_awake.w (w : World) (K : Value → World → Prop) : Prop :=
  ∀ (n1 : Nat) (w2 : World), New (.cells #[.int .i64 1, .int .i64 2] 3) w n1 w2 → 
  ∀ (n3 : Nat) (w4 : World), New (.cells #[.int .i64 (-1), .int .i64 3] 3) w2 n3 w4 → 
  Calls Try.prog 39 #[.slice (some (Addr.mk n1 0 none)) 2 2, .slice (some (Addr.mk n3 0 none)) 2 2, .int .i64 1] w4 fun e w5 => ∃ r6_p : Option Addr, ∃ r6_n : Nat, ∃ r6_c : Nat, ∃ r7 : Int, e = .returned (.tuple #[.slice r6_p r6_n r6_c, .int .i64 r7]) ∧ 
  ∀ (n8 : Nat) (w9 : World), New (.cells #[.int .i64 (-2), .int .i64 1, .int .i64 (-2)] 3) w5 n8 w9 → 
  Calls Try.prog 28 #[.slice (some (Addr.mk n8 0 none)) 3 3] w9 fun e w10 => ∃ r11_p : Option Addr, ∃ r11_n : Nat, ∃ r11_c : Nat, ∃ r12 : Bool, e = .returned (.tuple #[.slice r11_p r11_n r11_c, .bool r12]) ∧ 
  cnd (r7 == (0 : Int))
  (∀ (n13 : Nat) (w14 : World), New (.cells #[.int .i64 2, .int .i64 3] 3) w10 n13 w14 → 
  Calls Try.prog 31 #[.slice r6_p r6_n r6_c, .slice (some (Addr.mk n13 0 none)) 2 2] w14 fun e w15 => ∃ r16 : Bool, e = .returned (.bool r16) ∧ 
  cnd r16
  (∀ (n17 : Nat) (w18 : World), New (.cells #[.int .i64 1, .int .i64 (-2)] 3) w15 n17 w18 → 
  Calls Try.prog 31 #[.slice r11_p r11_n r11_c, .slice (some (Addr.mk n17 0 none)) 2 2] w18 fun e w19 => ∃ r20 : Bool, e = .returned (.bool r20) ∧ 
  cnd r20
  (K (.bool (!r12)) w19)
  (K (.bool false) w19))
  (K (.bool false) w15))
  (K (.bool false) w10)
theorem fathomlaw01_awake.eq (w : World) (K : Value → World → Prop) : wpF Try.prog Try.f27 .leaf [] w K = fathomlaw01_awake.w  w K := by kernel_rfl
theorem fathomlaw01_awake.ok : fnOk Try.prog Try.f27 0 = true := by kernel_rfl
theorem fathomlaw01_awake.calls {w : World} {R : Ending → World → Prop} (h : fathomlaw01_awake.w  w fun v w' => R (.returned v) w') : Calls Try.prog 27 #[] w R :=
  calls_of mixed Try.func27 fathomlaw01_awake.ok rfl (fun K => fathomlaw01_awake.eq  w K) h

/-! ### fathom/lit.Norm: function 28 (named slots 6) -/
def lit_Norm.w (c__p : Option Addr) (c__n : Nat) (c__c : Nat) (w : World) (K : Value → World → Prop) : Prop :=
  Calls Try.prog 30 #[.slice c__p c__n c__c] w fun e w1 => ∃ r2 : Int, e = .returned (.int .i64 r2) ∧ 
  cnd (r2 != (0 : Int))
  (K (.tuple #[.slice none 0 0, .bool false]) w1)
  (Calls Try.prog 67 #[.slice c__p c__n c__c] w1 fun e w3 => ∃ r4_p : Option Addr, ∃ r4_n : Nat, ∃ r4_c : Nat, e = .returned (.slice r4_p r4_n r4_c) ∧ 
    Calls Try.prog 65 #[.slice r4_p r4_n r4_c, .func (.func 68) #[] #[]] w3 fun e w5 => e = .returned (.tuple #[]) ∧ 
    Calls Try.prog 69 #[.slice r4_p r4_n r4_c] w5 fun e w6 => ∃ r7_p : Option Addr, ∃ r7_n : Nat, ∃ r7_c : Nat, e = .returned (.slice r7_p r7_n r7_c) ∧ 
    ∃ I8 : Int → World → Nat → Prop, (∃ k9, I8 1 w6 k9) ∧
    ∀ (i_11 : Int) (w12 : World) (k9 : Nat) (_ : Fr), I8 i_11 w12 k9 →
    cnd (decide (i_11 < (r7_n : Int)))
      (ixK r7_p r7_n i_11 1 fun a13 =>
        ∃ x14 : Int, w12.drew.cell? a13 = some (.int .i64 x14) ∧ 
        ixK r7_p r7_n (IntKind.i64.wrap (i_11 - (1 : Int))) 1 fun a15 =>
        ∃ x16 : Int, w12.drew.cell? a15 = some (.int .i64 x16) ∧ 
        cnd (x14 == (IntKind.i64.wrap (0 - x16)))
        (K (.tuple #[.slice r7_p r7_n r7_c, .bool true]) w12.drew)
        (∃ k10, k10 < k9 ∧ I8 (IntKind.i64.wrap (i_11 + (1 : Int))) w12.drew k10))
      (K (.tuple #[.slice r7_p r7_n r7_c, .bool false]) w12))
theorem lit_Norm.eq (c__p : Option Addr) (c__n : Nat) (c__c : Nat) (w : World) (K : Value → World → Prop) : wpF Try.prog Try.f28 (.two .leaf (.two .leaf (.two .leaf (.two .leaf (.two .leaf (.two (.two .leaf (.one (.loop [(5, 3)] .leaf))) .leaf)))))) [.slice c__p c__n c__c] w K = lit_Norm.w c__p c__n c__c w K := by kernel_rfl
theorem lit_Norm.ok : fnOk Try.prog Try.f28 1 = true := by kernel_rfl
theorem lit_Norm.calls {c__p : Option Addr} {c__n : Nat} {c__c : Nat} {w : World} {R : Ending → World → Prop} (h : lit_Norm.w c__p c__n c__c w fun v w' => R (.returned v) w') : Calls Try.prog 28 #[.slice c__p c__n c__c] w R :=
  calls_of mixed Try.func28 lit_Norm.ok rfl (fun K => lit_Norm.eq c__p c__n c__c w K) h

/-! ### fathom/fathomref01.May: function 29 (named slots 4) -/
def fathomref01_May.w (c__p : Option Addr) (c__n : Nat) (c__c : Nat) (w : World) (K : Value → World → Prop) : Prop :=
  ∃ I1 : Int → World → Nat → Prop, (∃ k2, I1 0 w k2) ∧
  ∀ (i_4 : Int) (w5 : World) (k2 : Nat) (_ : Fr), I1 i_4 w5 k2 →
  cnd (decide (i_4 < (c__n : Int)))
    (ixK c__p c__n i_4 1 fun a6 =>
      ∃ x7 : Int, w5.cell? a6 = some (.int .i64 x7) ∧ 
      Calls Try.prog 55 #[.int .i64 x7] w5 fun e w8 => ∃ r9 : Bool, e = .returned (.bool r9) ∧ 
      cnd (!r9)
      (K (.bool false) w8)
      (∃ k3, k3 < k2 ∧ I1 (IntKind.i64.wrap (i_4 + (1 : Int))) w8 k3))
    (K (.bool (decide ((c__n : Int) ≤ (4096 : Int)))) w5)
theorem fathomref01_May.eq (c__p : Option Addr) (c__n : Nat) (c__c : Nat) (w : World) (K : Value → World → Prop) : wpF Try.prog Try.f29 (.two .leaf (.two (.two .leaf (.one (.loop [(3, 3)] .leaf))) .leaf)) [.slice c__p c__n c__c] w K = fathomref01_May.w c__p c__n c__c w K := by kernel_rfl
theorem fathomref01_May.ok : fnOk Try.prog Try.f29 1 = true := by kernel_rfl
theorem fathomref01_May.calls {c__p : Option Addr} {c__n : Nat} {c__c : Nat} {w : World} {R : Ending → World → Prop} (h : fathomref01_May.w c__p c__n c__c w fun v w' => R (.returned v) w') : Calls Try.prog 29 #[.slice c__p c__n c__c] w R :=
  calls_of mixed Try.func29 fathomref01_May.ok rfl (fun K => fathomref01_May.eq c__p c__n c__c w K) h

/-! ### fathom/lit.Check: function 30 (named slots 3) -/
def lit_Check.w (c__p : Option Addr) (c__n : Nat) (c__c : Nat) (w : World) (K : Value → World → Prop) : Prop :=
  cnd (decide ((c__n : Int) > (4096 : Int)))
  (K (.int .i64 1) w)
  (Calls Try.prog 70 #[.slice c__p c__n c__c, .func (.func 71) #[] #[]] w fun e w1 => ∃ r2 : Bool, e = .returned (.bool r2) ∧ 
  cnd r2
  (K (.int .i64 1) w1)
  (K (.int .i64 0) w1))
theorem lit_Check.eq (c__p : Option Addr) (c__n : Nat) (c__c : Nat) (w : World) (K : Value → World → Prop) : wpF Try.prog Try.f30 .leaf [.slice c__p c__n c__c] w K = lit_Check.w c__p c__n c__c w K := by kernel_rfl
theorem lit_Check.ok : fnOk Try.prog Try.f30 1 = true := by kernel_rfl
theorem lit_Check.calls {c__p : Option Addr} {c__n : Nat} {c__c : Nat} {w : World} {R : Ending → World → Prop} (h : lit_Check.w c__p c__n c__c w fun v w' => R (.returned v) w') : Calls Try.prog 30 #[.slice c__p c__n c__c] w R :=
  calls_of mixed Try.func30 lit_Check.ok rfl (fun K => lit_Check.eq c__p c__n c__c w K) h

/-! ### fathom/fathomref01.Ints: function 31 (named slots 6) -/
def fathomref01_Ints.w (a__p : Option Addr) (a__n : Nat) (a__c : Nat) (b__p : Option Addr) (b__n : Nat) (b__c : Nat) (w : World) (K : Value → World → Prop) : Prop :=
  cnd ((a__n : Int) != (b__n : Int))
  (K (.bool false) w)
  (∃ I1 : Int → World → Nat → Prop, (∃ k2, I1 0 w k2) ∧
    ∀ (i_4 : Int) (w5 : World) (k2 : Nat) (_ : Fr), I1 i_4 w5 k2 →
    cnd (decide (i_4 < (a__n : Int)))
      (ixK a__p a__n i_4 1 fun a6 =>
        ∃ x7 : Int, w5.drew.cell? a6 = some (.int .i64 x7) ∧ 
        ixK b__p b__n i_4 1 fun a8 =>
        ∃ x9 : Int, w5.drew.cell? a8 = some (.int .i64 x9) ∧ 
        cnd (x7 != x9)
        (K (.bool false) w5.drew)
        (∃ k3, k3 < k2 ∧ I1 (IntKind.i64.wrap (i_4 + (1 : Int))) w5.drew k3))
      (K (.bool true) w5))
theorem fathomref01_Ints.eq (a__p : Option Addr) (a__n : Nat) (a__c : Nat) (b__p : Option Addr) (b__n : Nat) (b__c : Nat) (w : World) (K : Value → World → Prop) : wpF Try.prog Try.f31 (.two .leaf (.two .leaf (.two (.two .leaf (.one (.loop [(5, 3)] .leaf))) .leaf))) [.slice a__p a__n a__c, .slice b__p b__n b__c] w K = fathomref01_Ints.w a__p a__n a__c b__p b__n b__c w K := by kernel_rfl
theorem fathomref01_Ints.ok : fnOk Try.prog Try.f31 2 = true := by kernel_rfl
theorem fathomref01_Ints.calls {a__p : Option Addr} {a__n : Nat} {a__c : Nat} {b__p : Option Addr} {b__n : Nat} {b__c : Nat} {w : World} {R : Ending → World → Prop} (h : fathomref01_Ints.w a__p a__n a__c b__p b__n b__c w fun v w' => R (.returned v) w') : Calls Try.prog 31 #[.slice a__p a__n a__c, .slice b__p b__n b__c] w R :=
  calls_of mixed Try.func31 fathomref01_Ints.ok rfl (fun K => fathomref01_Ints.eq a__p a__n a__c b__p b__n b__c w K) h

/-! ### fathom/fathomref01.Order: function 32 (named slots 7) -/
def fathomref01_Order.w (c__p : Option Addr) (c__n : Nat) (c__c : Nat) (w : World) (K : Value → World → Prop) : Prop :=
  ∀ (n1 : Nat) (w2 : World), New (.cells #[] 3) w n1 w2 → 
  ∃ I3 : Option Addr → Nat → Nat → Int → World → Nat → Prop, (∃ k4, I3 (some (Addr.mk n1 0 none)) 0 0 0 w2 k4) ∧
  ∀ (out_6_p : Option Addr) (out_6_n : Nat) (out_6_c : Nat) (i_7 : Int) (w8 : World) (k4 : Nat) (_ : Fr), I3 out_6_p out_6_n out_6_c i_7 w8 k4 →
  cnd (decide (i_7 < (c__n : Int)))
    (ixK c__p c__n i_7 1 fun a9 =>
      ∃ x10 : Int, w8.cell? a9 = some (.int .i64 x10) ∧ 
      Calls Try.prog 40 #[.slice out_6_p out_6_n out_6_c, .int .i64 x10] w8 fun e w11 => ∃ r12 : Bool, e = .returned (.bool r12) ∧ 
      cnd r12
      (∃ k5, k5 < k4 ∧ I3 out_6_p out_6_n out_6_c (IntKind.i64.wrap (i_7 + (1 : Int))) w11 k5)
      (∃ I13 : Int → World → Nat → Prop, (∃ k14, I13 0 w11 k14) ∧
        ∀ (at_16 : Int) (w17 : World) (k14 : Nat) (_ : Fr), I13 at_16 w17 k14 →
        cnd (decide (at_16 < (out_6_n : Int)))
          (ixK out_6_p out_6_n at_16 1 fun a18 =>
          ∃ x19 : Int, w17.drew.cell? a18 = some (.int .i64 x19) ∧ 
          ixK c__p c__n i_7 1 fun a20 =>
          ∃ x21 : Int, w17.drew.cell? a20 = some (.int .i64 x21) ∧ 
          Calls Try.prog 73 #[.int .i64 x19, .int .i64 x21] w17.drew fun e w22 => ∃ r23 : Bool, e = .returned (.bool r23) ∧ 
          cnd r23
          (∃ k15, k15 < k14 ∧ I13 (IntKind.i64.wrap (at_16 + (1 : Int))) w22 k15)
          (∀ (n24 : Nat) (w25 : World), New (.cells #[] 3) w22 n24 w25 → 
            slK out_6_p out_6_n out_6_c 1 none (some at_16) none fun s26_p s26_n s26_c =>
            ∃ w27 : World, ∃ r28_p : Option Addr, ∃ r28_n : Nat, ∃ r28_c : Nat, (Builtin.append_ #[26, 26] 26 #[.slice (some (Addr.mk n24 0 none)) 0 0, .slice s26_p s26_n s26_c]).run Try.prog w25 = .ok (.slice r28_p r28_n r28_c) w27 ∧ 
            ixK c__p c__n i_7 1 fun a29 =>
            ∃ x30 : Int, w27.cell? a29 = some (.int .i64 x30) ∧ 
            ∀ (n31 : Nat) (w32 : World), New (.cells #[.int .i64 x30] 3) w27 n31 w32 → 
            ∃ w33 : World, ∃ r34_p : Option Addr, ∃ r34_n : Nat, ∃ r34_c : Nat, (Builtin.append_ #[26, 26] 26 #[.slice r28_p r28_n r28_c, .slice (some (Addr.mk n31 0 none)) 1 1]).run Try.prog w32 = .ok (.slice r34_p r34_n r34_c) w33 ∧ 
            slK out_6_p out_6_n out_6_c 1 (some at_16) none none fun s35_p s35_n s35_c =>
            ∃ w36 : World, ∃ r37_p : Option Addr, ∃ r37_n : Nat, ∃ r37_c : Nat, (Builtin.append_ #[26, 26] 26 #[.slice r34_p r34_n r34_c, .slice s35_p s35_n s35_c]).run Try.prog w33 = .ok (.slice r37_p r37_n r37_c) w36 ∧ 
            ∃ k5, k5 < k4 ∧ I3 r37_p r37_n r37_c (IntKind.i64.wrap (i_7 + (1 : Int))) w36 k5))
          (∀ (n38 : Nat) (w39 : World), New (.cells #[] 3) w17.drew n38 w39 → 
          slK out_6_p out_6_n out_6_c 1 none (some at_16) none fun s40_p s40_n s40_c =>
          ∃ w41 : World, ∃ r42_p : Option Addr, ∃ r42_n : Nat, ∃ r42_c : Nat, (Builtin.append_ #[26, 26] 26 #[.slice (some (Addr.mk n38 0 none)) 0 0, .slice s40_p s40_n s40_c]).run Try.prog w39 = .ok (.slice r42_p r42_n r42_c) w41 ∧ 
          ixK c__p c__n i_7 1 fun a43 =>
          ∃ x44 : Int, w41.cell? a43 = some (.int .i64 x44) ∧ 
          ∀ (n45 : Nat) (w46 : World), New (.cells #[.int .i64 x44] 3) w41 n45 w46 → 
          ∃ w47 : World, ∃ r48_p : Option Addr, ∃ r48_n : Nat, ∃ r48_c : Nat, (Builtin.append_ #[26, 26] 26 #[.slice r42_p r42_n r42_c, .slice (some (Addr.mk n45 0 none)) 1 1]).run Try.prog w46 = .ok (.slice r48_p r48_n r48_c) w47 ∧ 
          slK out_6_p out_6_n out_6_c 1 (some at_16) none none fun s49_p s49_n s49_c =>
          ∃ w50 : World, ∃ r51_p : Option Addr, ∃ r51_n : Nat, ∃ r51_c : Nat, (Builtin.append_ #[26, 26] 26 #[.slice r48_p r48_n r48_c, .slice s49_p s49_n s49_c]).run Try.prog w47 = .ok (.slice r51_p r51_n r51_c) w50 ∧ 
          ∃ k5, k5 < k4 ∧ I3 r51_p r51_n r51_c (IntKind.i64.wrap (i_7 + (1 : Int))) w50 k5)))
    (K (.slice out_6_p out_6_n out_6_c) w8)
theorem fathomref01_Order.eq (c__p : Option Addr) (c__n : Nat) (c__c : Nat) (w : World) (K : Value → World → Prop) : wpF Try.prog Try.f32 (.two .leaf (.two .leaf (.two (.two .leaf (.one (.loop [(3, 26), (4, 3)] (.two .leaf (.two (.one (.two .leaf (.two .leaf (.two (.one (.loop [(5, 3)] .leaf)) .leaf)))) .leaf))))) .leaf))) [.slice c__p c__n c__c] w K = fathomref01_Order.w c__p c__n c__c w K := by kernel_rfl
theorem fathomref01_Order.ok : fnOk Try.prog Try.f32 1 = true := by kernel_rfl
theorem fathomref01_Order.calls {c__p : Option Addr} {c__n : Nat} {c__c : Nat} {w : World} {R : Ending → World → Prop} (h : fathomref01_Order.w c__p c__n c__c w fun v w' => R (.returned v) w') : Calls Try.prog 32 #[.slice c__p c__n c__c] w R :=
  calls_of mixed Try.func32 fathomref01_Order.ok rfl (fun K => fathomref01_Order.eq c__p c__n c__c w K) h

/-! ### fathom/fathomref01.Taut: function 33 (named slots 4) -/
def fathomref01_Taut.w (c__p : Option Addr) (c__n : Nat) (c__c : Nat) (w : World) (K : Value → World → Prop) : Prop :=
  ∃ I1 : Int → World → Nat → Prop, (∃ k2, I1 0 w k2) ∧
  ∀ (i_4 : Int) (w5 : World) (k2 : Nat) (_ : Fr), I1 i_4 w5 k2 →
  cnd (decide (i_4 < (c__n : Int)))
    (ixK c__p c__n i_4 1 fun a6 =>
      ∃ x7 : Int, w5.cell? a6 = some (.int .i64 x7) ∧ 
      Calls Try.prog 40 #[.slice c__p c__n c__c, .int .i64 (IntKind.i64.wrap (0 - x7))] w5 fun e w8 => ∃ r9 : Bool, e = .returned (.bool r9) ∧ 
      cnd r9
      (K (.bool true) w8)
      (∃ k3, k3 < k2 ∧ I1 (IntKind.i64.wrap (i_4 + (1 : Int))) w8 k3))
    (K (.bool false) w5)
theorem fathomref01_Taut.eq (c__p : Option Addr) (c__n : Nat) (c__c : Nat) (w : World) (K : Value → World → Prop) : wpF Try.prog Try.f33 (.two .leaf (.two (.two .leaf (.one (.loop [(3, 3)] .leaf))) .leaf)) [.slice c__p c__n c__c] w K = fathomref01_Taut.w c__p c__n c__c w K := by kernel_rfl
theorem fathomref01_Taut.ok : fnOk Try.prog Try.f33 1 = true := by kernel_rfl
theorem fathomref01_Taut.calls {c__p : Option Addr} {c__n : Nat} {c__c : Nat} {w : World} {R : Ending → World → Prop} (h : fathomref01_Taut.w c__p c__n c__c w fun v w' => R (.returned v) w') : Calls Try.prog 33 #[.slice c__p c__n c__c] w R :=
  calls_of mixed Try.func33 fathomref01_Taut.ok rfl (fun K => fathomref01_Taut.eq c__p c__n c__c w K) h

/-! ### fathom/lit.Within: function 34 (named slots 5) -/
def lit_Within.w (a__p : Option Addr) (a__n : Nat) (a__c : Nat) (b__p : Option Addr) (b__n : Nat) (b__c : Nat) (w : World) (K : Value → World → Prop) : Prop :=
  ∀ (n1 : Nat) (w2 : World), New (.cells #[.slice b__p b__n b__c] 26) w n1 w2 → 
  Calls Try.prog 70 #[.slice a__p a__n a__c, .func (.func 74) #[] #[.pointer (some (Addr.mk n1 0 none))]] w2 fun e w3 => ∃ r4 : Bool, e = .returned (.bool r4) ∧ 
  K (.bool (!r4)) w3
theorem lit_Within.eq (a__p : Option Addr) (a__n : Nat) (a__c : Nat) (b__p : Option Addr) (b__n : Nat) (b__c : Nat) (w : World) (K : Value → World → Prop) : wpF Try.prog Try.f34 .leaf [.slice a__p a__n a__c, .slice b__p b__n b__c] w K = lit_Within.w a__p a__n a__c b__p b__n b__c w K := by kernel_rfl
theorem lit_Within.ok : fnOk Try.prog Try.f34 2 = true := by kernel_rfl
theorem lit_Within.calls {a__p : Option Addr} {a__n : Nat} {a__c : Nat} {b__p : Option Addr} {b__n : Nat} {b__c : Nat} {w : World} {R : Ending → World → Prop} (h : lit_Within.w a__p a__n a__c b__p b__n b__c w fun v w' => R (.returned v) w') : Calls Try.prog 34 #[.slice a__p a__n a__c, .slice b__p b__n b__c] w R :=
  calls_of mixed Try.func34 lit_Within.ok rfl (fun K => lit_Within.eq a__p a__n a__c b__p b__n b__c w K) h

/-! ### fathom/lit.Value: function 35 (named slots 6) -/
def lit_Value.w (m__p : Option Addr) (m__n : Nat) (m__c : Nat) (l_ : Int) (w : World) (K : Value → World → Prop) : Prop :=
  Calls Try.prog 72 #[.int .i64 l_] w fun e w1 => ∃ r2 : Bool, e = .returned (.bool r2) ∧ 
  cnd (!r2)
  (K (.int .i64 0) w1)
  (Calls Try.prog 76 #[.int .i64 l_] w1 fun e w3 => ∃ r4 : Int, e = .returned (.int .i64 r4) ∧ 
  cnd (decide (r4 > (m__n : Int)))
  (K (.int .i64 0) w3)
  (Calls Try.prog 76 #[.int .i64 l_] w3 fun e w5 => ∃ r6 : Int, e = .returned (.int .i64 r6) ∧ 
    ixK m__p m__n (IntKind.i64.wrap (r6 - (1 : Int))) 1 fun a7 =>
    ∃ x8 : Int, w5.cell? a7 = some (.int .i64 x8) ∧ 
    cnd (x8 == (0 : Int))
    (K (.int .i64 0) w5)
    (cnd ((decide (x8 > (0 : Int))) == (decide (l_ > (0 : Int))))
      (K (.int .i64 1) w5)
      (K (.int .i64 (-1)) w5))))
theorem lit_Value.eq (m__p : Option Addr) (m__n : Nat) (m__c : Nat) (l_ : Int) (w : World) (K : Value → World → Prop) : wpF Try.prog Try.f35 .leaf [.slice m__p m__n m__c, .int .i64 l_] w K = lit_Value.w m__p m__n m__c l_ w K := by kernel_rfl
theorem lit_Value.ok : fnOk Try.prog Try.f35 2 = true := by kernel_rfl
theorem lit_Value.calls {m__p : Option Addr} {m__n : Nat} {m__c : Nat} {l_ : Int} {w : World} {R : Ending → World → Prop} (h : lit_Value.w m__p m__n m__c l_ w fun v w' => R (.returned v) w') : Calls Try.prog 35 #[.slice m__p m__n m__c, .int .i64 l_] w R :=
  calls_of mixed Try.func35 lit_Value.ok rfl (fun K => lit_Value.eq m__p m__n m__c l_ w K) h

/-! ### fathom/fathomref01.Value: function 36 (named slots 5) -/
def fathomref01_Value.w (m__p : Option Addr) (m__n : Nat) (m__c : Nat) (l_ : Int) (w : World) (K : Value → World → Prop) : Prop :=
  Calls Try.prog 55 #[.int .i64 l_] w fun e w1 => ∃ r2 : Bool, e = .returned (.bool r2) ∧ 
  cnd (!r2)
  (K (.int .i64 0) w1)
  (Calls Try.prog 77 #[.int .i64 l_] w1 fun e w3 => ∃ r4 : Int, e = .returned (.int .i64 r4) ∧ 
  cnd (decide (r4 > (m__n : Int)))
  (K (.int .i64 0) w3)
  (Calls Try.prog 77 #[.int .i64 l_] w3 fun e w5 => ∃ r6 : Int, e = .returned (.int .i64 r6) ∧ 
  ixK m__p m__n (IntKind.i64.wrap (r6 - (1 : Int))) 1 fun a7 =>
  ∃ x8 : Int, w5.cell? a7 = some (.int .i64 x8) ∧ 
  cnd (x8 == (0 : Int))
  (K (.int .i64 0) w5)
  (Calls Try.prog 77 #[.int .i64 l_] w5 fun e w9 => ∃ r10 : Int, e = .returned (.int .i64 r10) ∧ 
    ixK m__p m__n (IntKind.i64.wrap (r10 - (1 : Int))) 1 fun a11 =>
    ∃ x12 : Int, w9.cell? a11 = some (.int .i64 x12) ∧ 
    cnd ((decide (x12 > (0 : Int))) == (decide (l_ > (0 : Int))))
    (K (.int .i64 1) w9)
    (K (.int .i64 (-1)) w9))))
theorem fathomref01_Value.eq (m__p : Option Addr) (m__n : Nat) (m__c : Nat) (l_ : Int) (w : World) (K : Value → World → Prop) : wpF Try.prog Try.f36 .leaf [.slice m__p m__n m__c, .int .i64 l_] w K = fathomref01_Value.w m__p m__n m__c l_ w K := by kernel_rfl
theorem fathomref01_Value.ok : fnOk Try.prog Try.f36 2 = true := by kernel_rfl
theorem fathomref01_Value.calls {m__p : Option Addr} {m__n : Nat} {m__c : Nat} {l_ : Int} {w : World} {R : Ending → World → Prop} (h : fathomref01_Value.w m__p m__n m__c l_ w fun v w' => R (.returned v) w') : Calls Try.prog 36 #[.slice m__p m__n m__c, .int .i64 l_] w R :=
  calls_of mixed Try.func36 fathomref01_Value.ok rfl (fun K => fathomref01_Value.eq m__p m__n m__c l_ w K) h

/-! ### fathom/lit.Clause: function 37 (named slots 8) -/
def lit_Clause.w (m__p : Option Addr) (m__n : Nat) (m__c : Nat) (c__p : Option Addr) (c__n : Nat) (c__c : Nat) (w : World) (K : Value → World → Prop) : Prop :=
  Calls Try.prog 30 #[.slice c__p c__n c__c] w fun e w1 => ∃ r2 : Int, e = .returned (.int .i64 r2) ∧ 
  cnd (r2 != (0 : Int))
  (K (.int .i64 0) w1)
  (∃ I3 : Int → Int → World → Nat → Prop, (∃ k4, I3 (-1) 0 w1 k4) ∧
    ∀ (best_6 : Int) (v7 : Int) (w8 : World) (k4 : Nat) (_ : Fr), I3 best_6 v7 w8 k4 →
    cnd (decide (v7 < (c__n : Int)))
      (ixK c__p c__n v7 1 fun a9 =>
        ∃ x10 : Int, w8.cell? a9 = some (.int .i64 x10) ∧ 
        Calls Try.prog 35 #[.slice m__p m__n m__c, .int .i64 x10] w8 fun e w11 => ∃ r12 : Int, e = .returned (.int .i64 r12) ∧ 
        ∃ k5, k5 < k4 ∧ I3 (imax best_6 r12) (IntKind.i64.wrap (v7 + (1 : Int))) w11 k5)
      (K (.int .i64 best_6) w8))
theorem lit_Clause.eq (m__p : Option Addr) (m__n : Nat) (m__c : Nat) (c__p : Option Addr) (c__n : Nat) (c__c : Nat) (w : World) (K : Value → World → Prop) : wpF Try.prog Try.f37 (.two .leaf (.two .leaf (.two .leaf (.two (.two .leaf (.one (.loop [(5, 3), (13, 3)] .leaf))) .leaf)))) [.slice m__p m__n m__c, .slice c__p c__n c__c] w K = lit_Clause.w m__p m__n m__c c__p c__n c__c w K := by kernel_rfl
theorem lit_Clause.ok : fnOk Try.prog Try.f37 2 = true := by kernel_rfl
theorem lit_Clause.calls {m__p : Option Addr} {m__n : Nat} {m__c : Nat} {c__p : Option Addr} {c__n : Nat} {c__c : Nat} {w : World} {R : Ending → World → Prop} (h : lit_Clause.w m__p m__n m__c c__p c__n c__c w fun v w' => R (.returned v) w') : Calls Try.prog 37 #[.slice m__p m__n m__c, .slice c__p c__n c__c] w R :=
  calls_of mixed Try.func37 lit_Clause.ok rfl (fun K => lit_Clause.eq m__p m__n m__c c__p c__n c__c w K) h

/-! ### fathom/fathomref01.Clause: function 38 (named slots 7) -/
def fathomref01_Clause.w (m__p : Option Addr) (m__n : Nat) (m__c : Nat) (c__p : Option Addr) (c__n : Nat) (c__c : Nat) (w : World) (K : Value → World → Prop) : Prop :=
  ∃ I1 : Bool → Int → World → Nat → Prop, (∃ k2, I1 false 0 w k2) ∧
  ∀ (open_4 : Bool) (i_5 : Int) (w6 : World) (k2 : Nat) (_ : Fr), I1 open_4 i_5 w6 k2 →
  cnd (decide (i_5 < (c__n : Int)))
    (ixK c__p c__n i_5 1 fun a7 =>
      ∃ x8 : Int, w6.cell? a7 = some (.int .i64 x8) ∧ 
      Calls Try.prog 36 #[.slice m__p m__n m__c, .int .i64 x8] w6 fun e w9 => ∃ r10 : Int, e = .returned (.int .i64 r10) ∧ 
      cnd (r10 == (1 : Int))
      (K (.int .i64 1) w9)
      (cnd open_4
        (∃ k3, k3 < k2 ∧ I1 true (IntKind.i64.wrap (i_5 + (1 : Int))) w9 k3)
        (ixK c__p c__n i_5 1 fun a11 =>
        ∃ x12 : Int, w9.cell? a11 = some (.int .i64 x12) ∧ 
        Calls Try.prog 36 #[.slice m__p m__n m__c, .int .i64 x12] w9 fun e w13 => ∃ r14 : Int, e = .returned (.int .i64 r14) ∧ 
        ∃ k3, k3 < k2 ∧ I1 (r14 == (0 : Int)) (IntKind.i64.wrap (i_5 + (1 : Int))) w13 k3)))
    (cnd open_4
      (K (.int .i64 0) w6)
      (K (.int .i64 (-1)) w6))
theorem fathomref01_Clause.eq (m__p : Option Addr) (m__n : Nat) (m__c : Nat) (c__p : Option Addr) (c__n : Nat) (c__c : Nat) (w : World) (K : Value → World → Prop) : wpF Try.prog Try.f38 (.two .leaf (.two .leaf (.two (.two .leaf (.one (.loop [(5, 4), (6, 3)] .leaf))) .leaf))) [.slice m__p m__n m__c, .slice c__p c__n c__c] w K = fathomref01_Clause.w m__p m__n m__c c__p c__n c__c w K := by kernel_rfl
theorem fathomref01_Clause.ok : fnOk Try.prog Try.f38 2 = true := by kernel_rfl
theorem fathomref01_Clause.calls {m__p : Option Addr} {m__n : Nat} {m__c : Nat} {c__p : Option Addr} {c__n : Nat} {c__c : Nat} {w : World} {R : Ending → World → Prop} (h : fathomref01_Clause.w m__p m__n m__c c__p c__n c__c w fun v w' => R (.returned v) w') : Calls Try.prog 38 #[.slice m__p m__n m__c, .slice c__p c__n c__c] w R :=
  calls_of mixed Try.func38 fathomref01_Clause.ok rfl (fun K => fathomref01_Clause.eq m__p m__n m__c c__p c__n c__c w K) h

/-! ### fathom/lit.Resolve: function 39 (named slots 13) -/
def lit_Resolve.w (a__p : Option Addr) (a__n : Nat) (a__c : Nat) (b__p : Option Addr) (b__n : Nat) (b__c : Nat) (v_ : Int) (w : World) (K : Value → World → Prop) : Prop :=
  Calls Try.prog 30 #[.slice a__p a__n a__c] w fun e w1 => ∃ r2 : Int, e = .returned (.int .i64 r2) ∧ 
  cnd (r2 != (0 : Int))
  (K (.tuple #[.slice none 0 0, .int .i64 1]) w1)
  (Calls Try.prog 30 #[.slice b__p b__n b__c] w1 fun e w3 => ∃ r4 : Int, e = .returned (.int .i64 r4) ∧ 
  cnd (r4 != (0 : Int))
  (K (.tuple #[.slice none 0 0, .int .i64 1]) w3)
  (cnd (decide (v_ < (1 : Int)))
  (K (.tuple #[.slice none 0 0, .int .i64 1]) w3)
  (cnd (decide (v_ > (1048576 : Int)))
  (K (.tuple #[.slice none 0 0, .int .i64 1]) w3)
  (Calls Try.prog 75 #[.slice a__p a__n a__c, .int .i64 v_] w3 fun e w5 => ∃ r6 : Bool, e = .returned (.bool r6) ∧ 
    cnd (!r6)
    (K (.tuple #[.slice none 0 0, .int .i64 4]) w5)
    (Calls Try.prog 75 #[.slice b__p b__n b__c, .int .i64 (IntKind.i64.wrap (0 - v_))] w5 fun e w7 => ∃ r8 : Bool, e = .returned (.bool r8) ∧ 
    cnd (!r8)
    (K (.tuple #[.slice none 0 0, .int .i64 4]) w7)
    (∃ I9 : Option Addr → Nat → Nat → Int → World → Nat → Prop, (∃ k10, I9 none 0 0 0 w7 k10) ∧
      ∀ (l_12_p : Option Addr) (l_12_n : Nat) (l_12_c : Nat) (v13 : Int) (w14 : World) (k10 : Nat) (_ : Fr), I9 l_12_p l_12_n l_12_c v13 w14 k10 →
      cnd (decide (v13 < (a__n : Int)))
        (ixK a__p a__n v13 1 fun a15 =>
          ∃ x16 : Int, w14.cell? a15 = some (.int .i64 x16) ∧ 
          cnd (x16 != v_)
          (∀ (n17 : Nat) (w18 : World), New (.cells #[.int .i64 x16] 3) w14 n17 w18 → 
            ∃ w19 : World, ∃ r20_p : Option Addr, ∃ r20_n : Nat, ∃ r20_c : Nat, (Builtin.append_ #[26, 26] 26 #[.slice l_12_p l_12_n l_12_c, .slice (some (Addr.mk n17 0 none)) 1 1]).run Try.prog w18 = .ok (.slice r20_p r20_n r20_c) w19 ∧ 
            ∃ k11, k11 < k10 ∧ I9 r20_p r20_n r20_c (IntKind.i64.wrap (v13 + (1 : Int))) w19 k11)
          (∃ k11, k11 < k10 ∧ I9 l_12_p l_12_n l_12_c (IntKind.i64.wrap (v13 + (1 : Int))) w14 k11))
        (∃ I21 : Option Addr → Nat → Nat → Int → World → Nat → Prop, (∃ k22, I21 l_12_p l_12_n l_12_c 0 w14 k22) ∧
          ∀ (l_24_p : Option Addr) (l_24_n : Nat) (l_24_c : Nat) (v25 : Int) (w26 : World) (k22 : Nat) (_ : Fr), I21 l_24_p l_24_n l_24_c v25 w26 k22 →
          cnd (decide (v25 < (b__n : Int)))
            (ixK b__p b__n v25 1 fun a27 =>
              ∃ x28 : Int, w26.cell? a27 = some (.int .i64 x28) ∧ 
              cnd (x28 != (IntKind.i64.wrap (0 - v_)))
              (∀ (n29 : Nat) (w30 : World), New (.cells #[.int .i64 x28] 3) w26 n29 w30 → 
                ∃ w31 : World, ∃ r32_p : Option Addr, ∃ r32_n : Nat, ∃ r32_c : Nat, (Builtin.append_ #[26, 26] 26 #[.slice l_24_p l_24_n l_24_c, .slice (some (Addr.mk n29 0 none)) 1 1]).run Try.prog w30 = .ok (.slice r32_p r32_n r32_c) w31 ∧ 
                ∃ k23, k23 < k22 ∧ I21 r32_p r32_n r32_c (IntKind.i64.wrap (v25 + (1 : Int))) w31 k23)
              (∃ k23, k23 < k22 ∧ I21 l_24_p l_24_n l_24_c (IntKind.i64.wrap (v25 + (1 : Int))) w26 k23))
            (Calls Try.prog 65 #[.slice l_24_p l_24_n l_24_c, .func (.func 68) #[] #[]] w26 fun e w33 => e = .returned (.tuple #[]) ∧ 
              Calls Try.prog 69 #[.slice l_24_p l_24_n l_24_c] w33 fun e w34 => ∃ r35_p : Option Addr, ∃ r35_n : Nat, ∃ r35_c : Nat, e = .returned (.slice r35_p r35_n r35_c) ∧ 
              K (.tuple #[.slice r35_p r35_n r35_c, .int .i64 0]) w34))))))))
theorem lit_Resolve.eq (a__p : Option Addr) (a__n : Nat) (a__c : Nat) (b__p : Option Addr) (b__n : Nat) (b__c : Nat) (v_ : Int) (w : World) (K : Value → World → Prop) : wpF Try.prog Try.f39 (.two .leaf (.two .leaf (.two .leaf (.two (.two .leaf (.one (.loop [(8, 26), (44, 3)] .leaf))) (.two (.two .leaf (.one (.loop [(8, 26), (58, 3)] .leaf))) .leaf))))) [.slice a__p a__n a__c, .slice b__p b__n b__c, .int .i64 v_] w K = lit_Resolve.w a__p a__n a__c b__p b__n b__c v_ w K := by kernel_rfl
theorem lit_Resolve.ok : fnOk Try.prog Try.f39 3 = true := by kernel_rfl
theorem lit_Resolve.calls {a__p : Option Addr} {a__n : Nat} {a__c : Nat} {b__p : Option Addr} {b__n : Nat} {b__c : Nat} {v_ : Int} {w : World} {R : Ending → World → Prop} (h : lit_Resolve.w a__p a__n a__c b__p b__n b__c v_ w fun v w' => R (.returned v) w') : Calls Try.prog 39 #[.slice a__p a__n a__c, .slice b__p b__n b__c, .int .i64 v_] w R :=
  calls_of mixed Try.func39 lit_Resolve.ok rfl (fun K => lit_Resolve.eq a__p a__n a__c b__p b__n b__c v_ w K) h

/-! ### fathom/fathomref01.Has: function 40 (named slots 6) -/
def fathomref01_Has.w (l__p : Option Addr) (l__n : Nat) (l__c : Nat) (n_ : Int) (w : World) (K : Value → World → Prop) : Prop :=
  ∃ I1 : Int → World → Nat → Prop, (∃ k2, I1 0 w k2) ∧
  ∀ (i_4 : Int) (w5 : World) (k2 : Nat) (_ : Fr), I1 i_4 w5 k2 →
  cnd (decide (i_4 < (l__n : Int)))
    (ixK l__p l__n i_4 1 fun a6 =>
      ∃ x7 : Int, w5.cell? a6 = some (.int .i64 x7) ∧ 
      cnd (x7 == n_)
      (K (.bool true) w5)
      (∃ k3, k3 < k2 ∧ I1 (IntKind.i64.wrap (i_4 + (1 : Int))) w5 k3))
    (K (.bool false) w5)
theorem fathomref01_Has.eq (l__p : Option Addr) (l__n : Nat) (l__c : Nat) (n_ : Int) (w : World) (K : Value → World → Prop) : wpF Try.prog Try.f40 (.two .leaf (.two (.two .leaf (.one (.loop [(5, 3)] .leaf))) .leaf)) [.slice l__p l__n l__c, .int .i64 n_] w K = fathomref01_Has.w l__p l__n l__c n_ w K := by kernel_rfl
theorem fathomref01_Has.ok : fnOk Try.prog Try.f40 2 = true := by kernel_rfl
theorem fathomref01_Has.calls {l__p : Option Addr} {l__n : Nat} {l__c : Nat} {n_ : Int} {w : World} {R : Ending → World → Prop} (h : fathomref01_Has.w l__p l__n l__c n_ w fun v w' => R (.returned v) w') : Calls Try.prog 40 #[.slice l__p l__n l__c, .int .i64 n_] w R :=
  calls_of mixed Try.func40 fathomref01_Has.ok rfl (fun K => fathomref01_Has.eq l__p l__n l__c n_ w K) h

/-! ### fathom/fathomref01.Without: function 41 (named slots 7) -/
def fathomref01_Without.w (c__p : Option Addr) (c__n : Nat) (c__c : Nat) (n_ : Int) (w : World) (K : Value → World → Prop) : Prop :=
  ∀ (n1 : Nat) (w2 : World), New (.cells #[] 3) w n1 w2 → 
  ∃ I3 : Option Addr → Nat → Nat → Int → World → Nat → Prop, (∃ k4, I3 (some (Addr.mk n1 0 none)) 0 0 0 w2 k4) ∧
  ∀ (out_6_p : Option Addr) (out_6_n : Nat) (out_6_c : Nat) (i_7 : Int) (w8 : World) (k4 : Nat) (_ : Fr), I3 out_6_p out_6_n out_6_c i_7 w8 k4 →
  cnd (decide (i_7 < (c__n : Int)))
    (ixK c__p c__n i_7 1 fun a9 =>
      ∃ x10 : Int, w8.cell? a9 = some (.int .i64 x10) ∧ 
      cnd (x10 != n_)
      (ixK c__p c__n i_7 1 fun a11 =>
        ∃ x12 : Int, w8.cell? a11 = some (.int .i64 x12) ∧ 
        ∀ (n13 : Nat) (w14 : World), New (.cells #[.int .i64 x12] 3) w8 n13 w14 → 
        ∃ w15 : World, ∃ r16_p : Option Addr, ∃ r16_n : Nat, ∃ r16_c : Nat, (Builtin.append_ #[26, 26] 26 #[.slice out_6_p out_6_n out_6_c, .slice (some (Addr.mk n13 0 none)) 1 1]).run Try.prog w14 = .ok (.slice r16_p r16_n r16_c) w15 ∧ 
        ∃ k5, k5 < k4 ∧ I3 r16_p r16_n r16_c (IntKind.i64.wrap (i_7 + (1 : Int))) w15 k5)
      (∃ k5, k5 < k4 ∧ I3 out_6_p out_6_n out_6_c (IntKind.i64.wrap (i_7 + (1 : Int))) w8 k5))
    (K (.slice out_6_p out_6_n out_6_c) w8)
theorem fathomref01_Without.eq (c__p : Option Addr) (c__n : Nat) (c__c : Nat) (n_ : Int) (w : World) (K : Value → World → Prop) : wpF Try.prog Try.f41 (.two .leaf (.two .leaf (.two (.two .leaf (.one (.loop [(5, 26), (6, 3)] .leaf))) .leaf))) [.slice c__p c__n c__c, .int .i64 n_] w K = fathomref01_Without.w c__p c__n c__c n_ w K := by kernel_rfl
theorem fathomref01_Without.ok : fnOk Try.prog Try.f41 2 = true := by kernel_rfl
theorem fathomref01_Without.calls {c__p : Option Addr} {c__n : Nat} {c__c : Nat} {n_ : Int} {w : World} {R : Ending → World → Prop} (h : fathomref01_Without.w c__p c__n c__c n_ w fun v w' => R (.returned v) w') : Calls Try.prog 41 #[.slice c__p c__n c__c, .int .i64 n_] w R :=
  calls_of mixed Try.func41 fathomref01_Without.ok rfl (fun K => fathomref01_Without.eq c__p c__n c__c n_ w K) h

/-! ### fathom/fathomlaw01.Light: function 47 (named slots 5) -/
def fathomlaw01_Light.w (f_0 : Int) (f_1_p : Option Addr) (f_1_n : Nat) (f_1_c : Nat) (w : World) (K : Value → World → Prop) : Prop :=
  ∀ (n1 : Nat) (w2 : World), New (.cells #[.int .i64 f_0, .slice f_1_p f_1_n f_1_c] 61) w n1 w2 → 
  ∃ I3 : Int → Int → World → Nat → Prop, (∃ k4, I3 0 0 w2 k4) ∧
  ∀ (n_6 : Int) (i_7 : Int) (w8 : World) (k4 : Nat) (_ : Fr), I3 n_6 i_7 w8 k4 →
  ∃ x9_p : Option Addr, ∃ x9_n : Nat, ∃ x9_c : Nat, w8.cell? ((Addr.mk n1 0 none).add 1) = some (.slice x9_p x9_n x9_c) ∧ 
    cnd (decide (i_7 < (x9_n : Int)))
    (cnd (decide (i_7 ≤ (300 : Int)))
    (∃ x10_p : Option Addr, ∃ x10_n : Nat, ∃ x10_c : Nat, w8.cell? ((Addr.mk n1 0 none).add 1) = some (.slice x10_p x10_n x10_c) ∧ 
      ixK x10_p x10_n i_7 1 fun a11 =>
      ∃ x12_p : Option Addr, ∃ x12_n : Nat, ∃ x12_c : Nat, w8.cell? a11 = some (.slice x12_p x12_n x12_c) ∧ 
      cnd (decide ((x12_n : Int) > (5000 : Int)))
      (K (.bool false) w8)
      (∃ x13_p : Option Addr, ∃ x13_n : Nat, ∃ x13_c : Nat, w8.cell? ((Addr.mk n1 0 none).add 1) = some (.slice x13_p x13_n x13_c) ∧ 
        ixK x13_p x13_n i_7 1 fun a14 =>
        ∃ x15_p : Option Addr, ∃ x15_n : Nat, ∃ x15_c : Nat, w8.cell? a14 = some (.slice x15_p x15_n x15_c) ∧ 
        ∃ k5, k5 < k4 ∧ I3 (IntKind.i64.wrap (n_6 + (x15_n : Int))) (IntKind.i64.wrap (i_7 + (1 : Int))) w8 k5))
    (∃ x16_p : Option Addr, ∃ x16_n : Nat, ∃ x16_c : Nat, w8.cell? ((Addr.mk n1 0 none).add 1) = some (.slice x16_p x16_n x16_c) ∧ 
      cnd (decide ((x16_n : Int) ≤ (300 : Int)))
      (K (.bool (decide (n_6 ≤ (6000 : Int)))) w8)
      (K (.bool false) w8)))
    (∃ x17_p : Option Addr, ∃ x17_n : Nat, ∃ x17_c : Nat, w8.cell? ((Addr.mk n1 0 none).add 1) = some (.slice x17_p x17_n x17_c) ∧ 
    cnd (decide ((x17_n : Int) ≤ (300 : Int)))
    (K (.bool (decide (n_6 ≤ (6000 : Int)))) w8)
    (K (.bool false) w8))
theorem fathomlaw01_Light.eq (f_0 : Int) (f_1_p : Option Addr) (f_1_n : Nat) (f_1_c : Nat) (w : World) (K : Value → World → Prop) : wpF Try.prog Try.f47 (.two .leaf (.two .leaf (.two (.two .leaf (.one (.loop [(3, 3), (4, 3)] .leaf))) .leaf))) [.agg #[.int .i64 f_0, .slice f_1_p f_1_n f_1_c]] w K = fathomlaw01_Light.w f_0 f_1_p f_1_n f_1_c w K := by kernel_rfl
theorem fathomlaw01_Light.ok : fnOk Try.prog Try.f47 1 = true := by kernel_rfl
theorem fathomlaw01_Light.calls {f_0 : Int} {f_1_p : Option Addr} {f_1_n : Nat} {f_1_c : Nat} {w : World} {R : Ending → World → Prop} (h : fathomlaw01_Light.w f_0 f_1_p f_1_n f_1_c w fun v w' => R (.returned v) w') : Calls Try.prog 47 #[.agg #[.int .i64 f_0, .slice f_1_p f_1_n f_1_c]] w R :=
  calls_of mixed Try.func47 fathomlaw01_Light.ok rfl (fun K => fathomlaw01_Light.eq f_0 f_1_p f_1_n f_1_c w K) h

/-! ### fathom/lit.Same: function 48 (named slots 5) -/
def lit_Same.w (a_0 : Int) (a_1_p : Option Addr) (a_1_n : Nat) (a_1_c : Nat) (b_0 : Int) (b_1_p : Option Addr) (b_1_n : Nat) (b_1_c : Nat) (w : World) (K : Value → World → Prop) : Prop :=
  ∀ (n1 : Nat) (w2 : World), New (.cells #[.int .i64 a_0, .slice a_1_p a_1_n a_1_c] 61) w n1 w2 → 
  ∀ (n3 : Nat) (w4 : World), New (.cells #[.int .i64 b_0, .slice b_1_p b_1_n b_1_c] 61) w2 n3 w4 → 
  ∃ x5 : Int, w4.cell? ((Addr.mk n1 0 none).add 0) = some (.int .i64 x5) ∧ 
  ∃ x6 : Int, w4.cell? ((Addr.mk n3 0 none).add 0) = some (.int .i64 x6) ∧ 
  cnd (x5 == x6)
  (∃ x7_p : Option Addr, ∃ x7_n : Nat, ∃ x7_c : Nat, w4.cell? ((Addr.mk n1 0 none).add 1) = some (.slice x7_p x7_n x7_c) ∧ 
  ∃ x8_p : Option Addr, ∃ x8_n : Nat, ∃ x8_c : Nat, w4.cell? ((Addr.mk n3 0 none).add 1) = some (.slice x8_p x8_n x8_c) ∧ 
  Calls Try.prog 85 #[.slice x7_p x7_n x7_c, .slice x8_p x8_n x8_c, .func (.func 86) #[] #[]] w4 fun e w9 => ∃ r10 : Bool, e = .returned (.bool r10) ∧ 
  K (.bool r10) w9)
  (K (.bool false) w4)
theorem lit_Same.eq (a_0 : Int) (a_1_p : Option Addr) (a_1_n : Nat) (a_1_c : Nat) (b_0 : Int) (b_1_p : Option Addr) (b_1_n : Nat) (b_1_c : Nat) (w : World) (K : Value → World → Prop) : wpF Try.prog Try.f48 .leaf [.agg #[.int .i64 a_0, .slice a_1_p a_1_n a_1_c], .agg #[.int .i64 b_0, .slice b_1_p b_1_n b_1_c]] w K = lit_Same.w a_0 a_1_p a_1_n a_1_c b_0 b_1_p b_1_n b_1_c w K := by kernel_rfl
theorem lit_Same.ok : fnOk Try.prog Try.f48 2 = true := by kernel_rfl
theorem lit_Same.calls {a_0 : Int} {a_1_p : Option Addr} {a_1_n : Nat} {a_1_c : Nat} {b_0 : Int} {b_1_p : Option Addr} {b_1_n : Nat} {b_1_c : Nat} {w : World} {R : Ending → World → Prop} (h : lit_Same.w a_0 a_1_p a_1_n a_1_c b_0 b_1_p b_1_n b_1_c w fun v w' => R (.returned v) w') : Calls Try.prog 48 #[.agg #[.int .i64 a_0, .slice a_1_p a_1_n a_1_c], .agg #[.int .i64 b_0, .slice b_1_p b_1_n b_1_c]] w R :=
  calls_of mixed Try.func48 lit_Same.ok rfl (fun K => lit_Same.eq a_0 a_1_p a_1_n a_1_c b_0 b_1_p b_1_n b_1_c w K) h

/-! ### fathom/fathomref01.Same: function 49 (named slots 5) -/
def fathomref01_Same.w (a_0 : Int) (a_1_p : Option Addr) (a_1_n : Nat) (a_1_c : Nat) (b_0 : Int) (b_1_p : Option Addr) (b_1_n : Nat) (b_1_c : Nat) (w : World) (K : Value → World → Prop) : Prop :=
  ∀ (n1 : Nat) (w2 : World), New (.cells #[.int .i64 a_0, .slice a_1_p a_1_n a_1_c] 61) w n1 w2 → 
  ∀ (n3 : Nat) (w4 : World), New (.cells #[.int .i64 b_0, .slice b_1_p b_1_n b_1_c] 61) w2 n3 w4 → 
  ∃ x5 : Int, w4.cell? ((Addr.mk n1 0 none).add 0) = some (.int .i64 x5) ∧ 
  ∃ x6 : Int, w4.cell? ((Addr.mk n3 0 none).add 0) = some (.int .i64 x6) ∧ 
  cnd (x5 == x6)
  (∃ x7_p : Option Addr, ∃ x7_n : Nat, ∃ x7_c : Nat, w4.cell? ((Addr.mk n1 0 none).add 1) = some (.slice x7_p x7_n x7_c) ∧ 
  ∃ x8_p : Option Addr, ∃ x8_n : Nat, ∃ x8_c : Nat, w4.cell? ((Addr.mk n3 0 none).add 1) = some (.slice x8_p x8_n x8_c) ∧ 
  Calls Try.prog 88 #[.slice x7_p x7_n x7_c, .slice x8_p x8_n x8_c] w4 fun e w9 => ∃ r10 : Bool, e = .returned (.bool r10) ∧ 
  K (.bool r10) w9)
  (K (.bool false) w4)
theorem fathomref01_Same.eq (a_0 : Int) (a_1_p : Option Addr) (a_1_n : Nat) (a_1_c : Nat) (b_0 : Int) (b_1_p : Option Addr) (b_1_n : Nat) (b_1_c : Nat) (w : World) (K : Value → World → Prop) : wpF Try.prog Try.f49 .leaf [.agg #[.int .i64 a_0, .slice a_1_p a_1_n a_1_c], .agg #[.int .i64 b_0, .slice b_1_p b_1_n b_1_c]] w K = fathomref01_Same.w a_0 a_1_p a_1_n a_1_c b_0 b_1_p b_1_n b_1_c w K := by kernel_rfl
theorem fathomref01_Same.ok : fnOk Try.prog Try.f49 2 = true := by kernel_rfl
theorem fathomref01_Same.calls {a_0 : Int} {a_1_p : Option Addr} {a_1_n : Nat} {a_1_c : Nat} {b_0 : Int} {b_1_p : Option Addr} {b_1_n : Nat} {b_1_c : Nat} {w : World} {R : Ending → World → Prop} (h : fathomref01_Same.w a_0 a_1_p a_1_n a_1_c b_0 b_1_p b_1_n b_1_c w fun v w' => R (.returned v) w') : Calls Try.prog 49 #[.agg #[.int .i64 a_0, .slice a_1_p a_1_n a_1_c], .agg #[.int .i64 b_0, .slice b_1_p b_1_n b_1_c]] w R :=
  calls_of mixed Try.func49 fathomref01_Same.ok rfl (fun K => fathomref01_Same.eq a_0 a_1_p a_1_n a_1_c b_0 b_1_p b_1_n b_1_c w K) h

/-! ### fathom/fathomref01.Cnf: function 50 (named slots 5) -/
def fathomref01_Cnf.w (f_0 : Int) (f_1_p : Option Addr) (f_1_n : Nat) (f_1_c : Nat) (w : World) (K : Value → World → Prop) : Prop :=
  ∀ (n1 : Nat) (w2 : World), New (.cells #[.int .i64 f_0, .slice f_1_p f_1_n f_1_c] 61) w n1 w2 → 
  ∃ x3 : Int, w2.cell? ((Addr.mk n1 0 none).add 0) = some (.int .i64 x3) ∧ 
  cnd (decide (x3 < (0 : Int)))
  (K (.bool false) w2)
  (∃ x4 : Int, w2.cell? ((Addr.mk n1 0 none).add 0) = some (.int .i64 x4) ∧ 
  cnd (decide (x4 > (1048576 : Int)))
  (K (.bool false) w2)
  (∃ x5_p : Option Addr, ∃ x5_n : Nat, ∃ x5_c : Nat, w2.cell? ((Addr.mk n1 0 none).add 1) = some (.slice x5_p x5_n x5_c) ∧ 
  cnd (decide ((x5_n : Int) > (262144 : Int)))
  (K (.bool false) w2)
  (∃ I6 : Int → World → Nat → Prop, (∃ k7, I6 0 w2 k7) ∧
    ∀ (i_9 : Int) (w10 : World) (k7 : Nat) (_ : Fr), I6 i_9 w10 k7 →
    ∃ x11_p : Option Addr, ∃ x11_n : Nat, ∃ x11_c : Nat, w10.cell? ((Addr.mk n1 0 none).add 1) = some (.slice x11_p x11_n x11_c) ∧ 
      cnd (decide (i_9 < (x11_n : Int)))
      (∃ x12_p : Option Addr, ∃ x12_n : Nat, ∃ x12_c : Nat, w10.cell? ((Addr.mk n1 0 none).add 1) = some (.slice x12_p x12_n x12_c) ∧ 
        ixK x12_p x12_n i_9 1 fun a13 =>
        ∃ x14_p : Option Addr, ∃ x14_n : Nat, ∃ x14_c : Nat, w10.cell? a13 = some (.slice x14_p x14_n x14_c) ∧ 
        Calls Try.prog 29 #[.slice x14_p x14_n x14_c] w10 fun e w15 => ∃ r16 : Bool, e = .returned (.bool r16) ∧ 
        cnd (!r16)
        (K (.bool false) w15)
        (∃ I17 : Int → World → Nat → Prop, (∃ k18, I17 0 w15 k18) ∧
          ∀ (k_20 : Int) (w21 : World) (k18 : Nat) (_ : Fr), I17 k_20 w21 k18 →
          ∃ x22_p : Option Addr, ∃ x22_n : Nat, ∃ x22_c : Nat, w21.cell? ((Addr.mk n1 0 none).add 1) = some (.slice x22_p x22_n x22_c) ∧ 
            ixK x22_p x22_n i_9 1 fun a23 =>
            ∃ x24_p : Option Addr, ∃ x24_n : Nat, ∃ x24_c : Nat, w21.cell? a23 = some (.slice x24_p x24_n x24_c) ∧ 
            cnd (decide (k_20 < (x24_n : Int)))
            (∃ x25_p : Option Addr, ∃ x25_n : Nat, ∃ x25_c : Nat, w21.drew.cell? ((Addr.mk n1 0 none).add 1) = some (.slice x25_p x25_n x25_c) ∧ 
              ixK x25_p x25_n i_9 1 fun a26 =>
              ∃ x27_p : Option Addr, ∃ x27_n : Nat, ∃ x27_c : Nat, w21.drew.cell? a26 = some (.slice x27_p x27_n x27_c) ∧ 
              ixK x27_p x27_n k_20 1 fun a28 =>
              ∃ x29 : Int, w21.drew.cell? a28 = some (.int .i64 x29) ∧ 
              (Calls Try.prog 77 #[.int .i64 x29] w21.drew fun e w30 => ∃ r31 : Int, e = .returned (.int .i64 r31) ∧ 
              ∃ x32 : Int, w30.cell? ((Addr.mk n1 0 none).add 0) = some (.int .i64 x32) ∧ 
              cnd (decide (r31 > x32))
              (K (.bool false) w30)
              (∃ k19, k19 < k18 ∧ I17 (IntKind.i64.wrap (k_20 + (1 : Int))) w30 k19)) ∧
            (∃ x33 : Int, w21.drew.cell? ((Addr.mk n1 0 none).add 0) = some (.int .i64 x33) ∧ 
              Calls Try.prog 77 #[.int .i64 x29] w21.drew fun e w34 => ∃ r35 : Int, e = .returned (.int .i64 r35) ∧ 
              cnd (decide (r35 > x33))
              (K (.bool false) w34)
              (∃ k19, k19 < k18 ∧ I17 (IntKind.i64.wrap (k_20 + (1 : Int))) w34 k19)))
            (∃ k8, k8 < k7 ∧ I6 (IntKind.i64.wrap (i_9 + (1 : Int))) w21 k8)))
      (K (.bool true) w10))))
theorem fathomref01_Cnf.eq (f_0 : Int) (f_1_p : Option Addr) (f_1_n : Nat) (f_1_c : Nat) (w : World) (K : Value → World → Prop) : wpF Try.prog Try.f50 (.two .leaf (.two .leaf (.two (.two .leaf (.one (.loop [(3, 3)] (.two .leaf (.two (.one (.two .leaf (.two .leaf (.one (.loop [(4, 3)] .leaf))))) .leaf))))) .leaf))) [.agg #[.int .i64 f_0, .slice f_1_p f_1_n f_1_c]] w K = fathomref01_Cnf.w f_0 f_1_p f_1_n f_1_c w K := by kernel_rfl
theorem fathomref01_Cnf.ok : fnOk Try.prog Try.f50 1 = true := by kernel_rfl
theorem fathomref01_Cnf.calls {f_0 : Int} {f_1_p : Option Addr} {f_1_n : Nat} {f_1_c : Nat} {w : World} {R : Ending → World → Prop} (h : fathomref01_Cnf.w f_0 f_1_p f_1_n f_1_c w fun v w' => R (.returned v) w') : Calls Try.prog 50 #[.agg #[.int .i64 f_0, .slice f_1_p f_1_n f_1_c]] w R :=
  calls_of mixed Try.func50 fathomref01_Cnf.ok rfl (fun K => fathomref01_Cnf.eq f_0 f_1_p f_1_n f_1_c w K) h

/-! ### fathom/lit.CheckCnf: function 51 (named slots 5) -/
def lit_CheckCnf.w (f_0 : Int) (f_1_p : Option Addr) (f_1_n : Nat) (f_1_c : Nat) (w : World) (K : Value → World → Prop) : Prop :=
  ∀ (n1 : Nat) (w2 : World), New (.cells #[.int .i64 f_0, .slice f_1_p f_1_n f_1_c] 61) w n1 w2 → 
  ∃ x3 : Int, w2.cell? ((Addr.mk n1 0 none).add 0) = some (.int .i64 x3) ∧ 
  cnd (decide (x3 < (0 : Int)))
  (K (.int .i64 1) w2)
  (∃ x4 : Int, w2.cell? ((Addr.mk n1 0 none).add 0) = some (.int .i64 x4) ∧ 
  cnd (decide (x4 > (1048576 : Int)))
  (K (.int .i64 1) w2)
  (∃ x5_p : Option Addr, ∃ x5_n : Nat, ∃ x5_c : Nat, w2.cell? ((Addr.mk n1 0 none).add 1) = some (.slice x5_p x5_n x5_c) ∧ 
  cnd (decide ((x5_n : Int) > (262144 : Int)))
  (K (.int .i64 1) w2)
  (∃ x6_p : Option Addr, ∃ x6_n : Nat, ∃ x6_c : Nat, w2.cell? ((Addr.mk n1 0 none).add 1) = some (.slice x6_p x6_n x6_c) ∧ 
    ∃ I7 : Int → World → Nat → Prop, (∃ k8, I7 0 w2 k8) ∧
    ∀ (v10 : Int) (w11 : World) (k8 : Nat) (_ : Fr), I7 v10 w11 k8 →
    cnd (decide (v10 < (x6_n : Int)))
      (ixK x6_p x6_n v10 1 fun a12 =>
        ∃ x13_p : Option Addr, ∃ x13_n : Nat, ∃ x13_c : Nat, w11.cell? a12 = some (.slice x13_p x13_n x13_c) ∧ 
        Calls Try.prog 30 #[.slice x13_p x13_n x13_c] w11 fun e w14 => ∃ r15 : Int, e = .returned (.int .i64 r15) ∧ 
        cnd (r15 != (0 : Int))
        (K (.int .i64 1) w14)
        (Calls Try.prog 70 #[.slice x13_p x13_n x13_c, .func (.func 89) #[] #[.pointer (some (Addr.mk n1 0 none))]] w14 fun e w16 => ∃ r17 : Bool, e = .returned (.bool r17) ∧ 
        cnd r17
        (K (.int .i64 1) w16)
        (∃ k9, k9 < k8 ∧ I7 (IntKind.i64.wrap (v10 + (1 : Int))) w16 k9)))
      (K (.int .i64 0) w11))))
theorem lit_CheckCnf.eq (f_0 : Int) (f_1_p : Option Addr) (f_1_n : Nat) (f_1_c : Nat) (w : World) (K : Value → World → Prop) : wpF Try.prog Try.f51 (.two .leaf (.two .leaf (.two (.two .leaf (.one (.loop [(22, 3)] .leaf))) .leaf))) [.agg #[.int .i64 f_0, .slice f_1_p f_1_n f_1_c]] w K = lit_CheckCnf.w f_0 f_1_p f_1_n f_1_c w K := by kernel_rfl
theorem lit_CheckCnf.ok : fnOk Try.prog Try.f51 1 = true := by kernel_rfl
theorem lit_CheckCnf.calls {f_0 : Int} {f_1_p : Option Addr} {f_1_n : Nat} {f_1_c : Nat} {w : World} {R : Ending → World → Prop} (h : lit_CheckCnf.w f_0 f_1_p f_1_n f_1_c w fun v w' => R (.returned v) w') : Calls Try.prog 51 #[.agg #[.int .i64 f_0, .slice f_1_p f_1_n f_1_c]] w R :=
  calls_of mixed Try.func51 lit_CheckCnf.ok rfl (fun K => lit_CheckCnf.eq f_0 f_1_p f_1_n f_1_c w K) h

/-! ### fathom/lit.Holds: function 52 (named slots 9) -/
def lit_Holds.w (f_0 : Int) (f_1_p : Option Addr) (f_1_n : Nat) (f_1_c : Nat) (m__p : Option Addr) (m__n : Nat) (m__c : Nat) (w : World) (K : Value → World → Prop) : Prop :=
  ∀ (n1 : Nat) (w2 : World), New (.cells #[.int .i64 f_0, .slice f_1_p f_1_n f_1_c] 61) w n1 w2 → 
  ∃ x3 : Int, ∃ x4_p : Option Addr, ∃ x4_n : Nat, ∃ x4_c : Nat, CellsAt w2 (Addr.mk n1 0 none) 0 [.int .i64 x3, .slice x4_p x4_n x4_c] ∧ 
  Calls Try.prog 51 #[.agg #[.int .i64 x3, .slice x4_p x4_n x4_c]] w2 fun e w5 => ∃ r6 : Int, e = .returned (.int .i64 r6) ∧ 
  cnd (r6 != (0 : Int))
  (K (.bool false) w5)
  (∃ x7_p : Option Addr, ∃ x7_n : Nat, ∃ x7_c : Nat, w5.cell? ((Addr.mk n1 0 none).add 1) = some (.slice x7_p x7_n x7_c) ∧ 
    ∃ I8 : Int → World → Nat → Prop, (∃ k9, I8 0 w5 k9) ∧
    ∀ (v11 : Int) (w12 : World) (k9 : Nat) (_ : Fr), I8 v11 w12 k9 →
    cnd (decide (v11 < (x7_n : Int)))
      (ixK x7_p x7_n v11 1 fun a13 =>
        ∃ x14_p : Option Addr, ∃ x14_n : Nat, ∃ x14_c : Nat, w12.cell? a13 = some (.slice x14_p x14_n x14_c) ∧ 
        ∃ I15 : Int → World → Nat → Prop, (∃ k16, I15 0 w12 k16) ∧
        ∀ (v18 : Int) (w19 : World) (k16 : Nat) (_ : Fr), I15 v18 w19 k16 →
        cnd (decide (v18 < (x14_n : Int)))
          (ixK x14_p x14_n v18 1 fun a20 =>
            ∃ x21 : Int, w19.cell? a20 = some (.int .i64 x21) ∧ 
            Calls Try.prog 35 #[.slice m__p m__n m__c, .int .i64 x21] w19 fun e w22 => ∃ r23 : Int, e = .returned (.int .i64 r23) ∧ 
            cnd (decide (r23 > (0 : Int)))
            (∃ k10, k10 < k9 ∧ I8 (IntKind.i64.wrap (v11 + (1 : Int))) w22 k10)
            (∃ k17, k17 < k16 ∧ I15 (IntKind.i64.wrap (v18 + (1 : Int))) w22 k17))
          (K (.bool false) w19))
      (K (.bool true) w12))
theorem lit_Holds.eq (f_0 : Int) (f_1_p : Option Addr) (f_1_n : Nat) (f_1_c : Nat) (m__p : Option Addr) (m__n : Nat) (m__c : Nat) (w : World) (K : Value → World → Prop) : wpF Try.prog Try.f52 (.two .leaf (.one (.two .leaf (.two .leaf (.two (.two .leaf (.one (.loop [(15, 3)] (.two .leaf (.two .leaf (.two (.one (.two .leaf (.two (.two .leaf (.one (.loop [(21, 3)] .leaf))) .leaf))) .leaf)))))) .leaf))))) [.agg #[.int .i64 f_0, .slice f_1_p f_1_n f_1_c], .slice m__p m__n m__c] w K = lit_Holds.w f_0 f_1_p f_1_n f_1_c m__p m__n m__c w K := by kernel_rfl
theorem lit_Holds.ok : fnOk Try.prog Try.f52 2 = true := by kernel_rfl
theorem lit_Holds.calls {f_0 : Int} {f_1_p : Option Addr} {f_1_n : Nat} {f_1_c : Nat} {m__p : Option Addr} {m__n : Nat} {m__c : Nat} {w : World} {R : Ending → World → Prop} (h : lit_Holds.w f_0 f_1_p f_1_n f_1_c m__p m__n m__c w fun v w' => R (.returned v) w') : Calls Try.prog 52 #[.agg #[.int .i64 f_0, .slice f_1_p f_1_n f_1_c], .slice m__p m__n m__c] w R :=
  calls_of mixed Try.func52 lit_Holds.ok rfl (fun K => lit_Holds.eq f_0 f_1_p f_1_n f_1_c m__p m__n m__c w K) h

/-! ### fathom/fathomref01.Holds: function 53 (named slots 6) -/
def fathomref01_Holds.w (f_0 : Int) (f_1_p : Option Addr) (f_1_n : Nat) (f_1_c : Nat) (m__p : Option Addr) (m__n : Nat) (m__c : Nat) (w : World) (K : Value → World → Prop) : Prop :=
  ∀ (n1 : Nat) (w2 : World), New (.cells #[.int .i64 f_0, .slice f_1_p f_1_n f_1_c] 61) w n1 w2 → 
  ∃ I3 : Int → World → Nat → Prop, (∃ k4, I3 0 w2 k4) ∧
  ∀ (i_6 : Int) (w7 : World) (k4 : Nat) (_ : Fr), I3 i_6 w7 k4 →
  ∃ x8_p : Option Addr, ∃ x8_n : Nat, ∃ x8_c : Nat, w7.cell? ((Addr.mk n1 0 none).add 1) = some (.slice x8_p x8_n x8_c) ∧ 
    cnd (decide (i_6 < (x8_n : Int)))
    (∃ x9_p : Option Addr, ∃ x9_n : Nat, ∃ x9_c : Nat, w7.cell? ((Addr.mk n1 0 none).add 1) = some (.slice x9_p x9_n x9_c) ∧ 
      ixK x9_p x9_n i_6 1 fun a10 =>
      ∃ x11_p : Option Addr, ∃ x11_n : Nat, ∃ x11_c : Nat, w7.cell? a10 = some (.slice x11_p x11_n x11_c) ∧ 
      Calls Try.prog 38 #[.slice m__p m__n m__c, .slice x11_p x11_n x11_c] w7 fun e w12 => ∃ r13 : Int, e = .returned (.int .i64 r13) ∧ 
      cnd (r13 != (1 : Int))
      (K (.bool false) w12)
      (∃ k5, k5 < k4 ∧ I3 (IntKind.i64.wrap (i_6 + (1 : Int))) w12 k5))
    (K (.bool true) w7)
theorem fathomref01_Holds.eq (f_0 : Int) (f_1_p : Option Addr) (f_1_n : Nat) (f_1_c : Nat) (m__p : Option Addr) (m__n : Nat) (m__c : Nat) (w : World) (K : Value → World → Prop) : wpF Try.prog Try.f53 (.two .leaf (.two (.two .leaf (.one (.loop [(5, 3)] .leaf))) .leaf)) [.agg #[.int .i64 f_0, .slice f_1_p f_1_n f_1_c], .slice m__p m__n m__c] w K = fathomref01_Holds.w f_0 f_1_p f_1_n f_1_c m__p m__n m__c w K := by kernel_rfl
theorem fathomref01_Holds.ok : fnOk Try.prog Try.f53 2 = true := by kernel_rfl
theorem fathomref01_Holds.calls {f_0 : Int} {f_1_p : Option Addr} {f_1_n : Nat} {f_1_c : Nat} {m__p : Option Addr} {m__n : Nat} {m__c : Nat} {w : World} {R : Ending → World → Prop} (h : fathomref01_Holds.w f_0 f_1_p f_1_n f_1_c m__p m__n m__c w fun v w' => R (.returned v) w') : Calls Try.prog 53 #[.agg #[.int .i64 f_0, .slice f_1_p f_1_n f_1_c], .slice m__p m__n m__c] w R :=
  calls_of mixed Try.func53 fathomref01_Holds.ok rfl (fun K => fathomref01_Holds.eq f_0 f_1_p f_1_n f_1_c m__p m__n m__c w K) h

/-! ### fathom/lit.Given: function 54 (named slots 8) -/
def lit_Given.w (f_0 : Int) (f_1_p : Option Addr) (f_1_n : Nat) (f_1_c : Nat) (l_ : Int) (w : World) (K : Value → World → Prop) : Prop :=
  ∀ (n1 : Nat) (w2 : World), New (.cells #[.int .i64 f_0, .slice f_1_p f_1_n f_1_c] 61) w n1 w2 → 
  ∀ (n3 : Nat) (w4 : World), New (.cells #[.int .i64 l_] 3) w2 n3 w4 → 
  ∀ (n5 : Nat) (w6 : World), New (.cells #[.int .i64 0, .slice none 0 0] 61) w4 n5 w6 → 
  ∃ x7 : Int, ∃ x8_p : Option Addr, ∃ x8_n : Nat, ∃ x8_c : Nat, CellsAt w6 (Addr.mk n1 0 none) 0 [.int .i64 x7, .slice x8_p x8_n x8_c] ∧ 
  Calls Try.prog 51 #[.agg #[.int .i64 x7, .slice x8_p x8_n x8_c]] w6 fun e w9 => ∃ r10 : Int, e = .returned (.int .i64 r10) ∧ 
  cnd (r10 != (0 : Int))
  (∃ w11 : World, StoreAt (Addr.mk n5 0 none) 0 [.int .i64 0, .slice none 0 0] w9 w11 ∧ 
    ∃ x12 : Int, ∃ x13_p : Option Addr, ∃ x13_n : Nat, ∃ x13_c : Nat, CellsAt w11 (Addr.mk n5 0 none) 0 [.int .i64 x12, .slice x13_p x13_n x13_c] ∧ 
    K (.agg #[.int .i64 x12, .slice x13_p x13_n x13_c]) w11)
  (∃ x14 : Int, w9.cell? ((Addr.mk n1 0 none).add 0) = some (.int .i64 x14) ∧ 
    ∀ (n15 : Nat) (w16 : World), New (.cells #[.int .i64 0, .slice none 0 0] 61) w9 n15 w16 → 
    ∃ w17 : World, StoreAt (Addr.mk n15 0 none) 0 [.int .i64 x14, .slice none 0 0] w16 w17 ∧ 
    ∃ x18_p : Option Addr, ∃ x18_n : Nat, ∃ x18_c : Nat, w17.cell? ((Addr.mk n1 0 none).add 1) = some (.slice x18_p x18_n x18_c) ∧ 
    ∃ I19 : Int → World → Nat → Prop, (∃ k20, I19 0 w17 k20) ∧
    ∀ (v22 : Int) (w23 : World) (k20 : Nat) (_ : Fr), I19 v22 w23 k20 →
    cnd (decide (v22 < (x18_n : Int)))
      (ixK x18_p x18_n v22 1 fun a24 =>
        ∃ x25_p : Option Addr, ∃ x25_n : Nat, ∃ x25_c : Nat, w23.cell? a24 = some (.slice x25_p x25_n x25_c) ∧ 
        ∃ x26 : Int, w23.cell? (Addr.mk n3 0 none) = some (.int .i64 x26) ∧ 
        Calls Try.prog 72 #[.int .i64 x26] w23 fun e w27 => ∃ r28 : Bool, e = .returned (.bool r28) ∧ 
        cnd r28
        (∃ x29 : Int, w27.cell? (Addr.mk n3 0 none) = some (.int .i64 x29) ∧ 
        Calls Try.prog 75 #[.slice x25_p x25_n x25_c, .int .i64 x29] w27 fun e w30 => ∃ r31 : Bool, e = .returned (.bool r31) ∧ 
        cnd r31
        (∃ k21, k21 < k20 ∧ I19 (IntKind.i64.wrap (v22 + (1 : Int))) w30 k21)
        ((∃ x32_p : Option Addr, ∃ x32_n : Nat, ∃ x32_c : Nat, w30.drew.cell? ((Addr.mk n15 0 none).add 1) = some (.slice x32_p x32_n x32_c) ∧ 
          Calls Try.prog 67 #[.slice x25_p x25_n x25_c] w30.drew fun e w33 => ∃ r34_p : Option Addr, ∃ r34_n : Nat, ∃ r34_c : Nat, e = .returned (.slice r34_p r34_n r34_c) ∧ 
          Calls Try.prog 90 #[.slice r34_p r34_n r34_c, .func (.func 91) #[] #[.pointer (some (Addr.mk n3 0 none))]] w33 fun e w35 => ∃ r36_p : Option Addr, ∃ r36_n : Nat, ∃ r36_c : Nat, e = .returned (.slice r36_p r36_n r36_c) ∧ 
          ∀ (n37 : Nat) (w38 : World), New (.cells #[.slice r36_p r36_n r36_c] 26) w35 n37 w38 → 
          ∃ w39 : World, ∃ r40_p : Option Addr, ∃ r40_n : Nat, ∃ r40_c : Nat, (Builtin.append_ #[59, 59] 59 #[.slice x32_p x32_n x32_c, .slice (some (Addr.mk n37 0 none)) 1 1]).run Try.prog w38 = .ok (.slice r40_p r40_n r40_c) w39 ∧ 
          ∃ w41 : World, StoreAt ((Addr.mk n15 0 none).add 1) 0 [.slice r40_p r40_n r40_c] w39 w41 ∧ 
          ∃ k21, k21 < k20 ∧ I19 (IntKind.i64.wrap (v22 + (1 : Int))) w41 k21) ∧
        (Calls Try.prog 67 #[.slice x25_p x25_n x25_c] w30.drew fun e w42 => ∃ r43_p : Option Addr, ∃ r43_n : Nat, ∃ r43_c : Nat, e = .returned (.slice r43_p r43_n r43_c) ∧ 
          (∃ x44_p : Option Addr, ∃ x44_n : Nat, ∃ x44_c : Nat, w42.cell? ((Addr.mk n15 0 none).add 1) = some (.slice x44_p x44_n x44_c) ∧ 
          Calls Try.prog 90 #[.slice r43_p r43_n r43_c, .func (.func 91) #[] #[.pointer (some (Addr.mk n3 0 none))]] w42 fun e w45 => ∃ r46_p : Option Addr, ∃ r46_n : Nat, ∃ r46_c : Nat, e = .returned (.slice r46_p r46_n r46_c) ∧ 
          ∀ (n47 : Nat) (w48 : World), New (.cells #[.slice r46_p r46_n r46_c] 26) w45 n47 w48 → 
          ∃ w49 : World, ∃ r50_p : Option Addr, ∃ r50_n : Nat, ∃ r50_c : Nat, (Builtin.append_ #[59, 59] 59 #[.slice x44_p x44_n x44_c, .slice (some (Addr.mk n47 0 none)) 1 1]).run Try.prog w48 = .ok (.slice r50_p r50_n r50_c) w49 ∧ 
          ∃ w51 : World, StoreAt ((Addr.mk n15 0 none).add 1) 0 [.slice r50_p r50_n r50_c] w49 w51 ∧ 
          ∃ k21, k21 < k20 ∧ I19 (IntKind.i64.wrap (v22 + (1 : Int))) w51 k21) ∧
        (Calls Try.prog 90 #[.slice r43_p r43_n r43_c, .func (.func 91) #[] #[.pointer (some (Addr.mk n3 0 none))]] w42 fun e w52 => ∃ r53_p : Option Addr, ∃ r53_n : Nat, ∃ r53_c : Nat, e = .returned (.slice r53_p r53_n r53_c) ∧ 
          (∃ x54_p : Option Addr, ∃ x54_n : Nat, ∃ x54_c : Nat, w52.cell? ((Addr.mk n15 0 none).add 1) = some (.slice x54_p x54_n x54_c) ∧ 
          ∀ (n55 : Nat) (w56 : World), New (.cells #[.slice r53_p r53_n r53_c] 26) w52 n55 w56 → 
          ∃ w57 : World, ∃ r58_p : Option Addr, ∃ r58_n : Nat, ∃ r58_c : Nat, (Builtin.append_ #[59, 59] 59 #[.slice x54_p x54_n x54_c, .slice (some (Addr.mk n55 0 none)) 1 1]).run Try.prog w56 = .ok (.slice r58_p r58_n r58_c) w57 ∧ 
          ∃ w59 : World, StoreAt ((Addr.mk n15 0 none).add 1) 0 [.slice r58_p r58_n r58_c] w57 w59 ∧ 
          ∃ k21, k21 < k20 ∧ I19 (IntKind.i64.wrap (v22 + (1 : Int))) w59 k21) ∧
        (∀ (n60 : Nat) (w61 : World), New (.cells #[.slice r53_p r53_n r53_c] 26) w52 n60 w61 → 
          ∃ x62_p : Option Addr, ∃ x62_n : Nat, ∃ x62_c : Nat, w61.cell? ((Addr.mk n15 0 none).add 1) = some (.slice x62_p x62_n x62_c) ∧ 
          ∃ w63 : World, ∃ r64_p : Option Addr, ∃ r64_n : Nat, ∃ r64_c : Nat, (Builtin.append_ #[59, 59] 59 #[.slice x62_p x62_n x62_c, .slice (some (Addr.mk n60 0 none)) 1 1]).run Try.prog w61 = .ok (.slice r64_p r64_n r64_c) w63 ∧ 
          ∃ w65 : World, StoreAt ((Addr.mk n15 0 none).add 1) 0 [.slice r64_p r64_n r64_c] w63 w65 ∧ 
          ∃ k21, k21 < k20 ∧ I19 (IntKind.i64.wrap (v22 + (1 : Int))) w65 k21)))))
        ((∃ x66_p : Option Addr, ∃ x66_n : Nat, ∃ x66_c : Nat, w27.drew.cell? ((Addr.mk n15 0 none).add 1) = some (.slice x66_p x66_n x66_c) ∧ 
        Calls Try.prog 67 #[.slice x25_p x25_n x25_c] w27.drew fun e w67 => ∃ r68_p : Option Addr, ∃ r68_n : Nat, ∃ r68_c : Nat, e = .returned (.slice r68_p r68_n r68_c) ∧ 
        Calls Try.prog 90 #[.slice r68_p r68_n r68_c, .func (.func 91) #[] #[.pointer (some (Addr.mk n3 0 none))]] w67 fun e w69 => ∃ r70_p : Option Addr, ∃ r70_n : Nat, ∃ r70_c : Nat, e = .returned (.slice r70_p r70_n r70_c) ∧ 
        ∀ (n71 : Nat) (w72 : World), New (.cells #[.slice r70_p r70_n r70_c] 26) w69 n71 w72 → 
        ∃ w73 : World, ∃ r74_p : Option Addr, ∃ r74_n : Nat, ∃ r74_c : Nat, (Builtin.append_ #[59, 59] 59 #[.slice x66_p x66_n x66_c, .slice (some (Addr.mk n71 0 none)) 1 1]).run Try.prog w72 = .ok (.slice r74_p r74_n r74_c) w73 ∧ 
        ∃ w75 : World, StoreAt ((Addr.mk n15 0 none).add 1) 0 [.slice r74_p r74_n r74_c] w73 w75 ∧ 
        ∃ k21, k21 < k20 ∧ I19 (IntKind.i64.wrap (v22 + (1 : Int))) w75 k21) ∧
      (Calls Try.prog 67 #[.slice x25_p x25_n x25_c] w27.drew fun e w76 => ∃ r77_p : Option Addr, ∃ r77_n : Nat, ∃ r77_c : Nat, e = .returned (.slice r77_p r77_n r77_c) ∧ 
        (∃ x78_p : Option Addr, ∃ x78_n : Nat, ∃ x78_c : Nat, w76.cell? ((Addr.mk n15 0 none).add 1) = some (.slice x78_p x78_n x78_c) ∧ 
        Calls Try.prog 90 #[.slice r77_p r77_n r77_c, .func (.func 91) #[] #[.pointer (some (Addr.mk n3 0 none))]] w76 fun e w79 => ∃ r80_p : Option Addr, ∃ r80_n : Nat, ∃ r80_c : Nat, e = .returned (.slice r80_p r80_n r80_c) ∧ 
        ∀ (n81 : Nat) (w82 : World), New (.cells #[.slice r80_p r80_n r80_c] 26) w79 n81 w82 → 
        ∃ w83 : World, ∃ r84_p : Option Addr, ∃ r84_n : Nat, ∃ r84_c : Nat, (Builtin.append_ #[59, 59] 59 #[.slice x78_p x78_n x78_c, .slice (some (Addr.mk n81 0 none)) 1 1]).run Try.prog w82 = .ok (.slice r84_p r84_n r84_c) w83 ∧ 
        ∃ w85 : World, StoreAt ((Addr.mk n15 0 none).add 1) 0 [.slice r84_p r84_n r84_c] w83 w85 ∧ 
        ∃ k21, k21 < k20 ∧ I19 (IntKind.i64.wrap (v22 + (1 : Int))) w85 k21) ∧
      (Calls Try.prog 90 #[.slice r77_p r77_n r77_c, .func (.func 91) #[] #[.pointer (some (Addr.mk n3 0 none))]] w76 fun e w86 => ∃ r87_p : Option Addr, ∃ r87_n : Nat, ∃ r87_c : Nat, e = .returned (.slice r87_p r87_n r87_c) ∧ 
        (∃ x88_p : Option Addr, ∃ x88_n : Nat, ∃ x88_c : Nat, w86.cell? ((Addr.mk n15 0 none).add 1) = some (.slice x88_p x88_n x88_c) ∧ 
        ∀ (n89 : Nat) (w90 : World), New (.cells #[.slice r87_p r87_n r87_c] 26) w86 n89 w90 → 
        ∃ w91 : World, ∃ r92_p : Option Addr, ∃ r92_n : Nat, ∃ r92_c : Nat, (Builtin.append_ #[59, 59] 59 #[.slice x88_p x88_n x88_c, .slice (some (Addr.mk n89 0 none)) 1 1]).run Try.prog w90 = .ok (.slice r92_p r92_n r92_c) w91 ∧ 
        ∃ w93 : World, StoreAt ((Addr.mk n15 0 none).add 1) 0 [.slice r92_p r92_n r92_c] w91 w93 ∧ 
        ∃ k21, k21 < k20 ∧ I19 (IntKind.i64.wrap (v22 + (1 : Int))) w93 k21) ∧
      (∀ (n94 : Nat) (w95 : World), New (.cells #[.slice r87_p r87_n r87_c] 26) w86 n94 w95 → 
        ∃ x96_p : Option Addr, ∃ x96_n : Nat, ∃ x96_c : Nat, w95.cell? ((Addr.mk n15 0 none).add 1) = some (.slice x96_p x96_n x96_c) ∧ 
        ∃ w97 : World, ∃ r98_p : Option Addr, ∃ r98_n : Nat, ∃ r98_c : Nat, (Builtin.append_ #[59, 59] 59 #[.slice x96_p x96_n x96_c, .slice (some (Addr.mk n94 0 none)) 1 1]).run Try.prog w95 = .ok (.slice r98_p r98_n r98_c) w97 ∧ 
        ∃ w99 : World, StoreAt ((Addr.mk n15 0 none).add 1) 0 [.slice r98_p r98_n r98_c] w97 w99 ∧ 
        ∃ k21, k21 < k20 ∧ I19 (IntKind.i64.wrap (v22 + (1 : Int))) w99 k21)))))
      (∃ x100 : Int, ∃ x101_p : Option Addr, ∃ x101_n : Nat, ∃ x101_c : Nat, CellsAt w23 (Addr.mk n15 0 none) 0 [.int .i64 x100, .slice x101_p x101_n x101_c] ∧ 
        ∃ w102 : World, StoreAt (Addr.mk n5 0 none) 0 [.int .i64 x100, .slice x101_p x101_n x101_c] w23 w102 ∧ 
        ∃ x103 : Int, ∃ x104_p : Option Addr, ∃ x104_n : Nat, ∃ x104_c : Nat, CellsAt w102 (Addr.mk n5 0 none) 0 [.int .i64 x103, .slice x104_p x104_n x104_c] ∧ 
        K (.agg #[.int .i64 x103, .slice x104_p x104_n x104_c]) w102))
theorem lit_Given.eq (f_0 : Int) (f_1_p : Option Addr) (f_1_n : Nat) (f_1_c : Nat) (l_ : Int) (w : World) (K : Value → World → Prop) : wpF Try.prog Try.f54 (.two .leaf (.two .leaf (.two .leaf (.two (.two .leaf (.one (.loop [(18, 3)] .leaf))) .leaf)))) [.agg #[.int .i64 f_0, .slice f_1_p f_1_n f_1_c], .int .i64 l_] w K = lit_Given.w f_0 f_1_p f_1_n f_1_c l_ w K := by kernel_rfl
theorem lit_Given.ok : fnOk Try.prog Try.f54 2 = true := by kernel_rfl
theorem lit_Given.calls {f_0 : Int} {f_1_p : Option Addr} {f_1_n : Nat} {f_1_c : Nat} {l_ : Int} {w : World} {R : Ending → World → Prop} (h : lit_Given.w f_0 f_1_p f_1_n f_1_c l_ w fun v w' => R (.returned v) w') : Calls Try.prog 54 #[.agg #[.int .i64 f_0, .slice f_1_p f_1_n f_1_c], .int .i64 l_] w R :=
  calls_of mixed Try.func54 lit_Given.ok rfl (fun K => lit_Given.eq f_0 f_1_p f_1_n f_1_c l_ w K) h

/-! ### fathom/fathomref01.Lit: function 55 (named slots 3) -/
def fathomref01_Lit.w (l_ : Int) (w : World) (K : Value → World → Prop) : Prop :=
  cnd (l_ != (0 : Int))
  (cnd (decide (l_ ≥ (-1048576)))
  (K (.bool (decide (l_ ≤ (1048576 : Int)))) w)
  (K (.bool false) w))
  (K (.bool false) w)
theorem fathomref01_Lit.eq (l_ : Int) (w : World) (K : Value → World → Prop) : wpF Try.prog Try.f55 .leaf [.int .i64 l_] w K = fathomref01_Lit.w l_ w K := by kernel_rfl
theorem fathomref01_Lit.ok : fnOk Try.prog Try.f55 1 = true := by kernel_rfl
theorem fathomref01_Lit.calls {l_ : Int} {w : World} {R : Ending → World → Prop} (h : fathomref01_Lit.w l_ w fun v w' => R (.returned v) w') : Calls Try.prog 55 #[.int .i64 l_] w R :=
  calls_of mixed Try.func55 fathomref01_Lit.ok rfl (fun K => fathomref01_Lit.eq l_ w K) h

/-! ### fathom/fathomref01.Given: function 56 (named slots 7) -/
def fathomref01_Given.w (f_0 : Int) (f_1_p : Option Addr) (f_1_n : Nat) (f_1_c : Nat) (l_ : Int) (w : World) (K : Value → World → Prop) : Prop :=
  ∀ (n1 : Nat) (w2 : World), New (.cells #[.int .i64 f_0, .slice f_1_p f_1_n f_1_c] 61) w n1 w2 → 
  ∀ (n3 : Nat) (w4 : World), New (.cells #[.int .i64 0, .slice none 0 0] 61) w2 n3 w4 → 
  ∃ x5 : Int, w4.cell? ((Addr.mk n1 0 none).add 0) = some (.int .i64 x5) ∧ 
  ∀ (n6 : Nat) (w7 : World), New (.cells #[.int .i64 0, .slice none 0 0] 61) w4 n6 w7 → 
  ∃ w8 : World, StoreAt (Addr.mk n6 0 none) 0 [.int .i64 x5, .slice none 0 0] w7 w8 ∧ 
  ∃ I9 : Int → World → Nat → Prop, (∃ k10, I9 0 w8 k10) ∧
  ∀ (i_12 : Int) (w13 : World) (k10 : Nat) (_ : Fr), I9 i_12 w13 k10 →
  ∃ x14_p : Option Addr, ∃ x14_n : Nat, ∃ x14_c : Nat, w13.cell? ((Addr.mk n1 0 none).add 1) = some (.slice x14_p x14_n x14_c) ∧ 
    cnd (decide (i_12 < (x14_n : Int)))
    (∃ x15_p : Option Addr, ∃ x15_n : Nat, ∃ x15_c : Nat, w13.cell? ((Addr.mk n1 0 none).add 1) = some (.slice x15_p x15_n x15_c) ∧ 
      ixK x15_p x15_n i_12 1 fun a16 =>
      ∃ x17_p : Option Addr, ∃ x17_n : Nat, ∃ x17_c : Nat, w13.cell? a16 = some (.slice x17_p x17_n x17_c) ∧ 
      Calls Try.prog 40 #[.slice x17_p x17_n x17_c, .int .i64 l_] w13 fun e w18 => ∃ r19 : Bool, e = .returned (.bool r19) ∧ 
      cnd (!r19)
      (∃ x20_p : Option Addr, ∃ x20_n : Nat, ∃ x20_c : Nat, w18.drew.cell? ((Addr.mk n1 0 none).add 1) = some (.slice x20_p x20_n x20_c) ∧ 
        ixK x20_p x20_n i_12 1 fun a21 =>
        ∃ x22_p : Option Addr, ∃ x22_n : Nat, ∃ x22_c : Nat, w18.drew.cell? a21 = some (.slice x22_p x22_n x22_c) ∧ 
        (∃ x23_p : Option Addr, ∃ x23_n : Nat, ∃ x23_c : Nat, w18.drew.cell? ((Addr.mk n6 0 none).add 1) = some (.slice x23_p x23_n x23_c) ∧ 
        Calls Try.prog 41 #[.slice x22_p x22_n x22_c, .int .i64 (IntKind.i64.wrap (0 - l_))] w18.drew fun e w24 => ∃ r25_p : Option Addr, ∃ r25_n : Nat, ∃ r25_c : Nat, e = .returned (.slice r25_p r25_n r25_c) ∧ 
        ∀ (n26 : Nat) (w27 : World), New (.cells #[.slice r25_p r25_n r25_c] 26) w24 n26 w27 → 
        ∃ w28 : World, ∃ r29_p : Option Addr, ∃ r29_n : Nat, ∃ r29_c : Nat, (Builtin.append_ #[59, 59] 59 #[.slice x23_p x23_n x23_c, .slice (some (Addr.mk n26 0 none)) 1 1]).run Try.prog w27 = .ok (.slice r29_p r29_n r29_c) w28 ∧ 
        ∃ w30 : World, StoreAt ((Addr.mk n6 0 none).add 1) 0 [.slice r29_p r29_n r29_c] w28 w30 ∧ 
        ∃ k11, k11 < k10 ∧ I9 (IntKind.i64.wrap (i_12 + (1 : Int))) w30 k11) ∧
      (Calls Try.prog 41 #[.slice x22_p x22_n x22_c, .int .i64 (IntKind.i64.wrap (0 - l_))] w18.drew fun e w31 => ∃ r32_p : Option Addr, ∃ r32_n : Nat, ∃ r32_c : Nat, e = .returned (.slice r32_p r32_n r32_c) ∧ 
        (∃ x33_p : Option Addr, ∃ x33_n : Nat, ∃ x33_c : Nat, w31.cell? ((Addr.mk n6 0 none).add 1) = some (.slice x33_p x33_n x33_c) ∧ 
        ∀ (n34 : Nat) (w35 : World), New (.cells #[.slice r32_p r32_n r32_c] 26) w31 n34 w35 → 
        ∃ w36 : World, ∃ r37_p : Option Addr, ∃ r37_n : Nat, ∃ r37_c : Nat, (Builtin.append_ #[59, 59] 59 #[.slice x33_p x33_n x33_c, .slice (some (Addr.mk n34 0 none)) 1 1]).run Try.prog w35 = .ok (.slice r37_p r37_n r37_c) w36 ∧ 
        ∃ w38 : World, StoreAt ((Addr.mk n6 0 none).add 1) 0 [.slice r37_p r37_n r37_c] w36 w38 ∧ 
        ∃ k11, k11 < k10 ∧ I9 (IntKind.i64.wrap (i_12 + (1 : Int))) w38 k11) ∧
      (∀ (n39 : Nat) (w40 : World), New (.cells #[.slice r32_p r32_n r32_c] 26) w31 n39 w40 → 
        ∃ x41_p : Option Addr, ∃ x41_n : Nat, ∃ x41_c : Nat, w40.cell? ((Addr.mk n6 0 none).add 1) = some (.slice x41_p x41_n x41_c) ∧ 
        ∃ w42 : World, ∃ r43_p : Option Addr, ∃ r43_n : Nat, ∃ r43_c : Nat, (Builtin.append_ #[59, 59] 59 #[.slice x41_p x41_n x41_c, .slice (some (Addr.mk n39 0 none)) 1 1]).run Try.prog w40 = .ok (.slice r43_p r43_n r43_c) w42 ∧ 
        ∃ w44 : World, StoreAt ((Addr.mk n6 0 none).add 1) 0 [.slice r43_p r43_n r43_c] w42 w44 ∧ 
        ∃ k11, k11 < k10 ∧ I9 (IntKind.i64.wrap (i_12 + (1 : Int))) w44 k11)))
      (∃ k11, k11 < k10 ∧ I9 (IntKind.i64.wrap (i_12 + (1 : Int))) w18 k11))
    (∃ x45 : Int, ∃ x46_p : Option Addr, ∃ x46_n : Nat, ∃ x46_c : Nat, CellsAt w13 (Addr.mk n6 0 none) 0 [.int .i64 x45, .slice x46_p x46_n x46_c] ∧ 
      ∃ w47 : World, StoreAt (Addr.mk n3 0 none) 0 [.int .i64 x45, .slice x46_p x46_n x46_c] w13 w47 ∧ 
      ∃ x48 : Int, ∃ x49_p : Option Addr, ∃ x49_n : Nat, ∃ x49_c : Nat, CellsAt w47 (Addr.mk n3 0 none) 0 [.int .i64 x48, .slice x49_p x49_n x49_c] ∧ 
      K (.agg #[.int .i64 x48, .slice x49_p x49_n x49_c]) w47)
theorem fathomref01_Given.eq (f_0 : Int) (f_1_p : Option Addr) (f_1_n : Nat) (f_1_c : Nat) (l_ : Int) (w : World) (K : Value → World → Prop) : wpF Try.prog Try.f56 (.two .leaf (.two .leaf (.two (.two .leaf (.one (.loop [(6, 3)] .leaf))) .leaf))) [.agg #[.int .i64 f_0, .slice f_1_p f_1_n f_1_c], .int .i64 l_] w K = fathomref01_Given.w f_0 f_1_p f_1_n f_1_c l_ w K := by kernel_rfl
theorem fathomref01_Given.ok : fnOk Try.prog Try.f56 2 = true := by kernel_rfl
theorem fathomref01_Given.calls {f_0 : Int} {f_1_p : Option Addr} {f_1_n : Nat} {f_1_c : Nat} {l_ : Int} {w : World} {R : Ending → World → Prop} (h : fathomref01_Given.w f_0 f_1_p f_1_n f_1_c l_ w fun v w' => R (.returned v) w') : Calls Try.prog 56 #[.agg #[.int .i64 f_0, .slice f_1_p f_1_n f_1_c], .int .i64 l_] w R :=
  calls_of mixed Try.func56 fathomref01_Given.ok rfl (fun K => fathomref01_Given.eq f_0 f_1_p f_1_n f_1_c l_ w K) h

/-! ### slices.SortFunc[[]int,int]: function 65 (named slots 5) -/
def slices_SortFunc_int_int.w (x0__p : Option Addr) (x0__n : Nat) (x0__c : Nat) (cmp_f : FuncId) (cmp_v : Array Value) (w : World) (K : Value → World → Prop) : Prop :=
  Calls Try.prog 99 #[.int .u64 (IntKind.u64.wrap (x0__n : Int))] w fun e w1 => ∃ r2 : Int, e = .returned (.int .i64 r2) ∧ 
  Calls Try.prog 98 #[.slice x0__p x0__n x0__c, .int .i64 0, .int .i64 (x0__n : Int), .int .i64 r2, .func (.func cmp_f) #[] cmp_v] w1 fun e w3 => e = .returned (.tuple #[]) ∧ 
  K (.tuple #[]) w3
theorem slices_SortFunc_int_int.eq (x0__p : Option Addr) (x0__n : Nat) (x0__c : Nat) (cmp_f : FuncId) (cmp_v : Array Value) (w : World) (K : Value → World → Prop) : wpF Try.prog Try.f65 .leaf [.slice x0__p x0__n x0__c, .func (.func cmp_f) #[] cmp_v] w K = slices_SortFunc_int_int.w x0__p x0__n x0__c cmp_f cmp_v w K := by kernel_rfl
theorem slices_SortFunc_int_int.ok : fnOk Try.prog Try.f65 2 = true := by kernel_rfl
theorem slices_SortFunc_int_int.calls {x0__p : Option Addr} {x0__n : Nat} {x0__c : Nat} {cmp_f : FuncId} {cmp_v : Array Value} {w : World} {R : Ending → World → Prop} (h : slices_SortFunc_int_int.w x0__p x0__n x0__c cmp_f cmp_v w fun v w' => R (.returned v) w') : Calls Try.prog 65 #[.slice x0__p x0__n x0__c, .func (.func cmp_f) #[] cmp_v] w R :=
  calls_of mixed Try.func65 slices_SortFunc_int_int.ok rfl (fun K => slices_SortFunc_int_int.eq x0__p x0__n x0__c cmp_f cmp_v w K) h

/-! ### slices.Clone[[]int,int]: function 67 (named slots 4) -/
def slices_Clone_int_int.w (s__p : Option Addr) (s__n : Nat) (s__c : Nat) (w : World) (K : Value → World → Prop) : Prop :=
  cnd s__p.isNone
  (K (.slice none 0 0) w)
  (∀ (n1 : Nat) (w2 : World), New (.cells #[] 3) w n1 w2 → 
    ∃ w3 : World, ∃ r4_p : Option Addr, ∃ r4_n : Nat, ∃ r4_c : Nat, (Builtin.append_ #[26, 26] 26 #[.slice (some (Addr.mk n1 0 none)) 0 0, .slice s__p s__n s__c]).run Try.prog w2 = .ok (.slice r4_p r4_n r4_c) w3 ∧ 
    K (.slice r4_p r4_n r4_c) w3)
theorem slices_Clone_int_int.eq (s__p : Option Addr) (s__n : Nat) (s__c : Nat) (w : World) (K : Value → World → Prop) : wpF Try.prog Try.f67 .leaf [.slice s__p s__n s__c] w K = slices_Clone_int_int.w s__p s__n s__c w K := by kernel_rfl
theorem slices_Clone_int_int.ok : fnOk Try.prog Try.f67 1 = true := by kernel_rfl
theorem slices_Clone_int_int.calls {s__p : Option Addr} {s__n : Nat} {s__c : Nat} {w : World} {R : Ending → World → Prop} (h : slices_Clone_int_int.w s__p s__n s__c w fun v w' => R (.returned v) w') : Calls Try.prog 67 #[.slice s__p s__n s__c] w R :=
  calls_of mixed Try.func67 slices_Clone_int_int.ok rfl (fun K => slices_Clone_int_int.eq s__p s__n s__c w K) h

/-! ### fathom/lit.before: function 68 (named slots 5) -/
def lit_before.w (a_ : Int) (b_ : Int) (w : World) (K : Value → World → Prop) : Prop :=
  Calls Try.prog 76 #[.int .i64 a_] w fun e w1 => ∃ r2 : Int, e = .returned (.int .i64 r2) ∧ 
  Calls Try.prog 76 #[.int .i64 b_] w1 fun e w3 => ∃ r4 : Int, e = .returned (.int .i64 r4) ∧ 
  cnd (r2 != r4)
  (Calls Try.prog 76 #[.int .i64 a_] w3 fun e w5 => ∃ r6 : Int, e = .returned (.int .i64 r6) ∧ 
    Calls Try.prog 76 #[.int .i64 b_] w5 fun e w7 => ∃ r8 : Int, e = .returned (.int .i64 r8) ∧ 
    K (.int .i64 (IntKind.i64.wrap (r6 - r8))) w7)
  (K (.int .i64 (IntKind.i64.wrap (b_ - a_))) w3)
theorem lit_before.eq (a_ : Int) (b_ : Int) (w : World) (K : Value → World → Prop) : wpF Try.prog Try.f68 .leaf [.int .i64 a_, .int .i64 b_] w K = lit_before.w a_ b_ w K := by kernel_rfl
theorem lit_before.ok : fnOk Try.prog Try.f68 2 = true := by kernel_rfl
theorem lit_before.calls {a_ : Int} {b_ : Int} {w : World} {R : Ending → World → Prop} (h : lit_before.w a_ b_ w fun v w' => R (.returned v) w') : Calls Try.prog 68 #[.int .i64 a_, .int .i64 b_] w R :=
  calls_of mixed Try.func68 lit_before.ok rfl (fun K => lit_before.eq a_ b_ w K) h

/-! ### slices.Compact[[]int,int]: function 69 (named slots 4) -/
def slices_Compact_int_int.w (s__p : Option Addr) (s__n : Nat) (s__c : Nat) (w : World) (K : Value → World → Prop) : Prop :=
  cnd (decide ((s__n : Int) < (2 : Int)))
  (K (.slice s__p s__n s__c) w)
  (∃ I1 : Int → World → Nat → Prop, (∃ k2, I1 1 w k2) ∧
    ∀ (k_4 : Int) (w5 : World) (k2 : Nat) (_ : Fr), I1 k_4 w5 k2 →
    cnd (decide (k_4 < (s__n : Int)))
      (ixK s__p s__n k_4 1 fun a6 =>
        ∃ x7 : Int, w5.drew.cell? a6 = some (.int .i64 x7) ∧ 
        ixK s__p s__n (IntKind.i64.wrap (k_4 - (1 : Int))) 1 fun a8 =>
        ∃ x9 : Int, w5.drew.cell? a8 = some (.int .i64 x9) ∧ 
        cnd (x7 == x9)
        (slK s__p s__n s__c 1 (some k_4) none none fun s10_p s10_n s10_c =>
          ∃ I11 : Int → Int → World → Nat → Prop, (∃ k12, I11 k_4 1 w5.drew k12) ∧
          ∀ (k_14 : Int) (k2_15 : Int) (w16 : World) (k12 : Nat) (_ : Fr), I11 k_14 k2_15 w16 k12 →
          cnd (decide (k2_15 < (s10_n : Int)))
            (ixK s10_p s10_n k2_15 1 fun a17 =>
              ∃ x18 : Int, w16.drew.cell? a17 = some (.int .i64 x18) ∧ 
              ixK s10_p s10_n (IntKind.i64.wrap (k2_15 - (1 : Int))) 1 fun a19 =>
              ∃ x20 : Int, w16.drew.cell? a19 = some (.int .i64 x20) ∧ 
              cnd (x18 != x20)
              (ixK s10_p s10_n k2_15 1 fun a21 =>
                ∃ x22 : Int, w16.drew.cell? a21 = some (.int .i64 x22) ∧ 
                ixK s__p s__n k_14 1 fun a23 =>
                ∃ w24 : World, StoreAt a23 0 [.int .i64 x22] w16.drew w24 ∧ 
                ∃ k13, k13 < k12 ∧ I11 (IntKind.i64.wrap (k_14 + (1 : Int))) (IntKind.i64.wrap (k2_15 + (1 : Int))) w24 k13)
              (∃ k13, k13 < k12 ∧ I11 k_14 (IntKind.i64.wrap (k2_15 + (1 : Int))) w16.drew k13))
            (slK s__p s__n s__c 1 (some k_14) none none fun s25_p s25_n s25_c =>
              ∃ w26 : World, (Builtin.clear_ #[26] 0 #[.slice s25_p s25_n s25_c]).run Try.prog w16 = .ok (.tuple #[]) w26 ∧ 
              slK s__p s__n s__c 1 none (some k_14) none fun s27_p s27_n s27_c =>
              K (.slice s27_p s27_n s27_c) w26))
        (∃ k3, k3 < k2 ∧ I1 (IntKind.i64.wrap (k_4 + (1 : Int))) w5.drew k3))
      (K (.slice s__p s__n s__c) w5))
theorem slices_Compact_int_int.eq (s__p : Option Addr) (s__n : Nat) (s__c : Nat) (w : World) (K : Value → World → Prop) : wpF Try.prog Try.f69 (.two .leaf (.two .leaf (.two (.two .leaf (.one (.loop [(3, 3)] (.two .leaf (.two (.one (.two .leaf (.two (.two .leaf (.two (.two .leaf (.one (.loop [(3, 3), (5, 3)] .leaf))) .leaf)) .leaf))) .leaf))))) .leaf))) [.slice s__p s__n s__c] w K = slices_Compact_int_int.w s__p s__n s__c w K := by kernel_rfl
theorem slices_Compact_int_int.ok : fnOk Try.prog Try.f69 1 = true := by kernel_rfl
theorem slices_Compact_int_int.calls {s__p : Option Addr} {s__n : Nat} {s__c : Nat} {w : World} {R : Ending → World → Prop} (h : slices_Compact_int_int.w s__p s__n s__c w fun v w' => R (.returned v) w') : Calls Try.prog 69 #[.slice s__p s__n s__c] w R :=
  calls_of mixed Try.func69 slices_Compact_int_int.ok rfl (fun K => slices_Compact_int_int.eq s__p s__n s__c w K) h

/-! ### slices.ContainsFunc[[]int,int]: function 70 (named slots 5) -/
def slices_ContainsFunc_int_int.w (s__p : Option Addr) (s__n : Nat) (s__c : Nat) (f_f : FuncId) (f_v : Array Value) (w : World) (K : Value → World → Prop) : Prop :=
  Calls Try.prog 100 #[.slice s__p s__n s__c, .func (.func f_f) #[] f_v] w fun e w1 => ∃ r2 : Int, e = .returned (.int .i64 r2) ∧ 
  K (.bool (decide (r2 ≥ (0 : Int)))) w1
theorem slices_ContainsFunc_int_int.eq (s__p : Option Addr) (s__n : Nat) (s__c : Nat) (f_f : FuncId) (f_v : Array Value) (w : World) (K : Value → World → Prop) : wpF Try.prog Try.f70 .leaf [.slice s__p s__n s__c, .func (.func f_f) #[] f_v] w K = slices_ContainsFunc_int_int.w s__p s__n s__c f_f f_v w K := by kernel_rfl
theorem slices_ContainsFunc_int_int.ok : fnOk Try.prog Try.f70 2 = true := by kernel_rfl
theorem slices_ContainsFunc_int_int.calls {s__p : Option Addr} {s__n : Nat} {s__c : Nat} {f_f : FuncId} {f_v : Array Value} {w : World} {R : Ending → World → Prop} (h : slices_ContainsFunc_int_int.w s__p s__n s__c f_f f_v w fun v w' => R (.returned v) w') : Calls Try.prog 70 #[.slice s__p s__n s__c, .func (.func f_f) #[] f_v] w R :=
  calls_of mixed Try.func70 slices_ContainsFunc_int_int.ok rfl (fun K => slices_ContainsFunc_int_int.eq s__p s__n s__c f_f f_v w K) h

/-! ### fathom/lit.Check$1: function 71 (named slots 3) -/
def lit_Check_1.w (l_ : Int) (w : World) (K : Value → World → Prop) : Prop :=
  Calls Try.prog 72 #[.int .i64 l_] w fun e w1 => ∃ r2 : Bool, e = .returned (.bool r2) ∧ 
  K (.bool (!r2)) w1
theorem lit_Check_1.eq (l_ : Int) (w : World) (K : Value → World → Prop) : wpF Try.prog Try.f71 .leaf [.int .i64 l_] w K = lit_Check_1.w l_ w K := by kernel_rfl
theorem lit_Check_1.ok : fnOk Try.prog Try.f71 1 = true := by kernel_rfl
theorem lit_Check_1.calls {l_ : Int} {w : World} {R : Ending → World → Prop} (h : lit_Check_1.w l_ w fun v w' => R (.returned v) w') : Calls Try.prog 71 #[.int .i64 l_] w R :=
  calls_of mixed Try.func71 lit_Check_1.ok rfl (fun K => lit_Check_1.eq l_ w K) h

/-! ### fathom/lit.is: function 72 (named slots 3) -/
def lit_is.w (l_ : Int) (w : World) (K : Value → World → Prop) : Prop :=
  cnd (l_ != (0 : Int))
  (cnd (decide (l_ ≥ (-1048576)))
  (K (.bool (decide (l_ ≤ (1048576 : Int)))) w)
  (K (.bool false) w))
  (K (.bool false) w)
theorem lit_is.eq (l_ : Int) (w : World) (K : Value → World → Prop) : wpF Try.prog Try.f72 .leaf [.int .i64 l_] w K = lit_is.w l_ w K := by kernel_rfl
theorem lit_is.ok : fnOk Try.prog Try.f72 1 = true := by kernel_rfl
theorem lit_is.calls {l_ : Int} {w : World} {R : Ending → World → Prop} (h : lit_is.w l_ w fun v w' => R (.returned v) w') : Calls Try.prog 72 #[.int .i64 l_] w R :=
  calls_of mixed Try.func72 lit_is.ok rfl (fun K => lit_is.eq l_ w K) h

/-! ### fathom/fathomref01.Ahead: function 73 (named slots 5) -/
def fathomref01_Ahead.w (a_ : Int) (b_ : Int) (w : World) (K : Value → World → Prop) : Prop :=
  Calls Try.prog 77 #[.int .i64 a_] w fun e w1 => ∃ r2 : Int, e = .returned (.int .i64 r2) ∧ 
  Calls Try.prog 77 #[.int .i64 b_] w1 fun e w3 => ∃ r4 : Int, e = .returned (.int .i64 r4) ∧ 
  cnd (decide (r2 < r4))
  (K (.bool true) w3)
  (Calls Try.prog 77 #[.int .i64 a_] w3 fun e w5 => ∃ r6 : Int, e = .returned (.int .i64 r6) ∧ 
  Calls Try.prog 77 #[.int .i64 b_] w5 fun e w7 => ∃ r8 : Int, e = .returned (.int .i64 r8) ∧ 
  cnd (r6 == r8)
  (K (.bool (decide (a_ > b_))) w7)
  (K (.bool false) w7))
theorem fathomref01_Ahead.eq (a_ : Int) (b_ : Int) (w : World) (K : Value → World → Prop) : wpF Try.prog Try.f73 .leaf [.int .i64 a_, .int .i64 b_] w K = fathomref01_Ahead.w a_ b_ w K := by kernel_rfl
theorem fathomref01_Ahead.ok : fnOk Try.prog Try.f73 2 = true := by kernel_rfl
theorem fathomref01_Ahead.calls {a_ : Int} {b_ : Int} {w : World} {R : Ending → World → Prop} (h : fathomref01_Ahead.w a_ b_ w fun v w' => R (.returned v) w') : Calls Try.prog 73 #[.int .i64 a_, .int .i64 b_] w R :=
  calls_of mixed Try.func73 fathomref01_Ahead.ok rfl (fun K => fathomref01_Ahead.eq a_ b_ w K) h

/-! ### fathom/lit.Within$1: function 74 (named slots 4) -/
def lit_Within_1.w (n_ : Int) (c0_ : Addr) (w : World) (K : Value → World → Prop) : Prop :=
  ∃ x1_p : Option Addr, ∃ x1_n : Nat, ∃ x1_c : Nat, w.cell? c0_ = some (.slice x1_p x1_n x1_c) ∧ 
  Calls Try.prog 75 #[.slice x1_p x1_n x1_c, .int .i64 n_] w fun e w2 => ∃ r3 : Bool, e = .returned (.bool r3) ∧ 
  K (.bool (!r3)) w2
theorem lit_Within_1.eq (n_ : Int) (c0_ : Addr) (w : World) (K : Value → World → Prop) : wpF Try.prog Try.f74 .leaf [.int .i64 n_, .pointer (some c0_)] w K = lit_Within_1.w n_ c0_ w K := by kernel_rfl
theorem lit_Within_1.ok : fnOk Try.prog Try.f74 2 = true := by kernel_rfl
theorem lit_Within_1.calls {n_ : Int} {c0_ : Addr} {w : World} {R : Ending → World → Prop} (h : lit_Within_1.w n_ c0_ w fun v w' => R (.returned v) w') : Calls Try.prog 74 #[.int .i64 n_, .pointer (some c0_)] w R :=
  calls_of mixed Try.func74 lit_Within_1.ok rfl (fun K => lit_Within_1.eq n_ c0_ w K) h

/-! ### slices.Contains[[]int,int]: function 75 (named slots 5) -/
def slices_Contains_int_int.w (s__p : Option Addr) (s__n : Nat) (s__c : Nat) (v_ : Int) (w : World) (K : Value → World → Prop) : Prop :=
  Calls Try.prog 101 #[.slice s__p s__n s__c, .int .i64 v_] w fun e w1 => ∃ r2 : Int, e = .returned (.int .i64 r2) ∧ 
  K (.bool (decide (r2 ≥ (0 : Int)))) w1
theorem slices_Contains_int_int.eq (s__p : Option Addr) (s__n : Nat) (s__c : Nat) (v_ : Int) (w : World) (K : Value → World → Prop) : wpF Try.prog Try.f75 .leaf [.slice s__p s__n s__c, .int .i64 v_] w K = slices_Contains_int_int.w s__p s__n s__c v_ w K := by kernel_rfl
theorem slices_Contains_int_int.ok : fnOk Try.prog Try.f75 2 = true := by kernel_rfl
theorem slices_Contains_int_int.calls {s__p : Option Addr} {s__n : Nat} {s__c : Nat} {v_ : Int} {w : World} {R : Ending → World → Prop} (h : slices_Contains_int_int.w s__p s__n s__c v_ w fun v w' => R (.returned v) w') : Calls Try.prog 75 #[.slice s__p s__n s__c, .int .i64 v_] w R :=
  calls_of mixed Try.func75 slices_Contains_int_int.ok rfl (fun K => slices_Contains_int_int.eq s__p s__n s__c v_ w K) h

/-! ### fathom/lit.amount: function 76 (named slots 3) -/
def lit_amount.w (l_ : Int) (w : World) (K : Value → World → Prop) : Prop :=
  K (.int .i64 (imax l_ (IntKind.i64.wrap (0 - l_)))) w
theorem lit_amount.eq (l_ : Int) (w : World) (K : Value → World → Prop) : wpF Try.prog Try.f76 .leaf [.int .i64 l_] w K = lit_amount.w l_ w K := by kernel_rfl
theorem lit_amount.ok : fnOk Try.prog Try.f76 1 = true := by kernel_rfl
theorem lit_amount.calls {l_ : Int} {w : World} {R : Ending → World → Prop} (h : lit_amount.w l_ w fun v w' => R (.returned v) w') : Calls Try.prog 76 #[.int .i64 l_] w R :=
  calls_of mixed Try.func76 lit_amount.ok rfl (fun K => lit_amount.eq l_ w K) h

/-! ### fathom/fathomref01.Var: function 77 (named slots 3) -/
def fathomref01_Var.w (l_ : Int) (w : World) (K : Value → World → Prop) : Prop :=
  cnd (decide (l_ < (0 : Int)))
  (K (.int .i64 (IntKind.i64.wrap (0 - l_))) w)
  (K (.int .i64 l_) w)
theorem fathomref01_Var.eq (l_ : Int) (w : World) (K : Value → World → Prop) : wpF Try.prog Try.f77 .leaf [.int .i64 l_] w K = fathomref01_Var.w l_ w K := by kernel_rfl
theorem fathomref01_Var.ok : fnOk Try.prog Try.f77 1 = true := by kernel_rfl
theorem fathomref01_Var.calls {l_ : Int} {w : World} {R : Ending → World → Prop} (h : fathomref01_Var.w l_ w fun v w' => R (.returned v) w') : Calls Try.prog 77 #[.int .i64 l_] w R :=
  calls_of mixed Try.func77 fathomref01_Var.ok rfl (fun K => fathomref01_Var.eq l_ w K) h

/-! ### slices.EqualFunc[[][]int,[][]int,[]int,[]int]: function 85 (named slots 62) -/
def slices_EqualFunc_int_int_int_int.w (s1__p : Option Addr) (s1__n : Nat) (s1__c : Nat) (s2__p : Option Addr) (s2__n : Nat) (s2__c : Nat) (eq_f : FuncId) (eq_v : Array Value) (w : World) (K : Value → World → Prop) : Prop :=
  cnd ((s1__n : Int) != (s2__n : Int))
  (K (.bool false) w)
  (∃ I1 : Int → World → Nat → Prop, (∃ k2, I1 0 w k2) ∧
    ∀ (v4 : Int) (w5 : World) (k2 : Nat) (_ : Fr), I1 v4 w5 k2 →
    cnd (decide (v4 < (s1__n : Int)))
      (ixK s1__p s1__n v4 1 fun a6 =>
        ∃ x7_p : Option Addr, ∃ x7_n : Nat, ∃ x7_c : Nat, w5.cell? a6 = some (.slice x7_p x7_n x7_c) ∧ 
        ixK s2__p s2__n v4 1 fun a8 =>
        ∃ x9_p : Option Addr, ∃ x9_n : Nat, ∃ x9_c : Nat, w5.cell? a8 = some (.slice x9_p x9_n x9_c) ∧ 
        cnd (entB Try.prog eq_f) (Calls Try.prog eq_f (#[] ++ #[.slice x7_p x7_n x7_c, .slice x9_p x9_n x9_c] ++ eq_v) w5 fun e w10 => ∃ r11 : Bool, e = .returned (.bool r11) ∧ 
        cnd (!r11)
        (K (.bool false) w10)
        (∃ k3, k3 < k2 ∧ I1 (IntKind.i64.wrap (v4 + (1 : Int))) w10 k3)) False)
      (K (.bool true) w5))
theorem slices_EqualFunc_int_int_int_int.eq (s1__p : Option Addr) (s1__n : Nat) (s1__c : Nat) (s2__p : Option Addr) (s2__n : Nat) (s2__c : Nat) (eq_f : FuncId) (eq_v : Array Value) (w : World) (K : Value → World → Prop) : wpF Try.prog Try.f85 (.two .leaf (.two .leaf (.two (.two .leaf (.one (.loop [(17, 3)] .leaf))) .leaf))) [.slice s1__p s1__n s1__c, .slice s2__p s2__n s2__c, .func (.func eq_f) #[] eq_v] w K = slices_EqualFunc_int_int_int_int.w s1__p s1__n s1__c s2__p s2__n s2__c eq_f eq_v w K := by kernel_rfl
theorem slices_EqualFunc_int_int_int_int.ok : fnOk Try.prog Try.f85 3 = true := by kernel_rfl
theorem slices_EqualFunc_int_int_int_int.calls {s1__p : Option Addr} {s1__n : Nat} {s1__c : Nat} {s2__p : Option Addr} {s2__n : Nat} {s2__c : Nat} {eq_f : FuncId} {eq_v : Array Value} {w : World} {R : Ending → World → Prop} (h : slices_EqualFunc_int_int_int_int.w s1__p s1__n s1__c s2__p s2__n s2__c eq_f eq_v w fun v w' => R (.returned v) w') : Calls Try.prog 85 #[.slice s1__p s1__n s1__c, .slice s2__p s2__n s2__c, .func (.func eq_f) #[] eq_v] w R :=
  calls_of mixed Try.func85 slices_EqualFunc_int_int_int_int.ok rfl (fun K => slices_EqualFunc_int_int_int_int.eq s1__p s1__n s1__c s2__p s2__n s2__c eq_f eq_v w K) h

/-! ### fathom/lit.Same$1: function 86 (named slots 5) -/
def lit_Same_1.w (x0__p : Option Addr) (x0__n : Nat) (x0__c : Nat) (y__p : Option Addr) (y__n : Nat) (y__c : Nat) (w : World) (K : Value → World → Prop) : Prop :=
  Calls Try.prog 87 #[.slice x0__p x0__n x0__c, .slice y__p y__n y__c] w fun e w1 => ∃ r2 : Bool, e = .returned (.bool r2) ∧ 
  K (.bool r2) w1
theorem lit_Same_1.eq (x0__p : Option Addr) (x0__n : Nat) (x0__c : Nat) (y__p : Option Addr) (y__n : Nat) (y__c : Nat) (w : World) (K : Value → World → Prop) : wpF Try.prog Try.f86 .leaf [.slice x0__p x0__n x0__c, .slice y__p y__n y__c] w K = lit_Same_1.w x0__p x0__n x0__c y__p y__n y__c w K := by kernel_rfl
theorem lit_Same_1.ok : fnOk Try.prog Try.f86 2 = true := by kernel_rfl
theorem lit_Same_1.calls {x0__p : Option Addr} {x0__n : Nat} {x0__c : Nat} {y__p : Option Addr} {y__n : Nat} {y__c : Nat} {w : World} {R : Ending → World → Prop} (h : lit_Same_1.w x0__p x0__n x0__c y__p y__n y__c w fun v w' => R (.returned v) w') : Calls Try.prog 86 #[.slice x0__p x0__n x0__c, .slice y__p y__n y__c] w R :=
  calls_of mixed Try.func86 lit_Same_1.ok rfl (fun K => lit_Same_1.eq x0__p x0__n x0__c y__p y__n y__c w K) h

/-! ### slices.Equal[[]int,int]: function 87 (named slots 5) -/
def slices_Equal_int_int.w (s1__p : Option Addr) (s1__n : Nat) (s1__c : Nat) (s2__p : Option Addr) (s2__n : Nat) (s2__c : Nat) (w : World) (K : Value → World → Prop) : Prop :=
  cnd ((s1__n : Int) != (s2__n : Int))
  (K (.bool false) w)
  (∃ I1 : Int → World → Nat → Prop, (∃ k2, I1 0 w k2) ∧
    ∀ (v4 : Int) (w5 : World) (k2 : Nat) (_ : Fr), I1 v4 w5 k2 →
    cnd (decide (v4 < (s1__n : Int)))
      (ixK s1__p s1__n v4 1 fun a6 =>
        ∃ x7 : Int, w5.drew.cell? a6 = some (.int .i64 x7) ∧ 
        ixK s2__p s2__n v4 1 fun a8 =>
        ∃ x9 : Int, w5.drew.cell? a8 = some (.int .i64 x9) ∧ 
        cnd (x7 != x9)
        (K (.bool false) w5.drew)
        (∃ k3, k3 < k2 ∧ I1 (IntKind.i64.wrap (v4 + (1 : Int))) w5.drew k3))
      (K (.bool true) w5))
theorem slices_Equal_int_int.eq (s1__p : Option Addr) (s1__n : Nat) (s1__c : Nat) (s2__p : Option Addr) (s2__n : Nat) (s2__c : Nat) (w : World) (K : Value → World → Prop) : wpF Try.prog Try.f87 (.two .leaf (.two .leaf (.two (.two .leaf (.one (.loop [(13, 3)] .leaf))) .leaf))) [.slice s1__p s1__n s1__c, .slice s2__p s2__n s2__c] w K = slices_Equal_int_int.w s1__p s1__n s1__c s2__p s2__n s2__c w K := by kernel_rfl
theorem slices_Equal_int_int.ok : fnOk Try.prog Try.f87 2 = true := by kernel_rfl
theorem slices_Equal_int_int.calls {s1__p : Option Addr} {s1__n : Nat} {s1__c : Nat} {s2__p : Option Addr} {s2__n : Nat} {s2__c : Nat} {w : World} {R : Ending → World → Prop} (h : slices_Equal_int_int.w s1__p s1__n s1__c s2__p s2__n s2__c w fun v w' => R (.returned v) w') : Calls Try.prog 87 #[.slice s1__p s1__n s1__c, .slice s2__p s2__n s2__c] w R :=
  calls_of mixed Try.func87 slices_Equal_int_int.ok rfl (fun K => slices_Equal_int_int.eq s1__p s1__n s1__c s2__p s2__n s2__c w K) h

/-! ### fathom/fathomref01.Lists: function 88 (named slots 6) -/
def fathomref01_Lists.w (a__p : Option Addr) (a__n : Nat) (a__c : Nat) (b__p : Option Addr) (b__n : Nat) (b__c : Nat) (w : World) (K : Value → World → Prop) : Prop :=
  cnd ((a__n : Int) != (b__n : Int))
  (K (.bool false) w)
  (∃ I1 : Int → World → Nat → Prop, (∃ k2, I1 0 w k2) ∧
    ∀ (i_4 : Int) (w5 : World) (k2 : Nat) (_ : Fr), I1 i_4 w5 k2 →
    cnd (decide (i_4 < (a__n : Int)))
      (ixK a__p a__n i_4 1 fun a6 =>
        ∃ x7_p : Option Addr, ∃ x7_n : Nat, ∃ x7_c : Nat, w5.drew.cell? a6 = some (.slice x7_p x7_n x7_c) ∧ 
        ixK b__p b__n i_4 1 fun a8 =>
        ∃ x9_p : Option Addr, ∃ x9_n : Nat, ∃ x9_c : Nat, w5.drew.cell? a8 = some (.slice x9_p x9_n x9_c) ∧ 
        Calls Try.prog 31 #[.slice x7_p x7_n x7_c, .slice x9_p x9_n x9_c] w5.drew fun e w10 => ∃ r11 : Bool, e = .returned (.bool r11) ∧ 
        cnd (!r11)
        (K (.bool false) w10)
        (∃ k3, k3 < k2 ∧ I1 (IntKind.i64.wrap (i_4 + (1 : Int))) w10 k3))
      (K (.bool true) w5))
theorem fathomref01_Lists.eq (a__p : Option Addr) (a__n : Nat) (a__c : Nat) (b__p : Option Addr) (b__n : Nat) (b__c : Nat) (w : World) (K : Value → World → Prop) : wpF Try.prog Try.f88 (.two .leaf (.two .leaf (.two (.two .leaf (.one (.loop [(5, 3)] .leaf))) .leaf))) [.slice a__p a__n a__c, .slice b__p b__n b__c] w K = fathomref01_Lists.w a__p a__n a__c b__p b__n b__c w K := by kernel_rfl
theorem fathomref01_Lists.ok : fnOk Try.prog Try.f88 2 = true := by kernel_rfl
theorem fathomref01_Lists.calls {a__p : Option Addr} {a__n : Nat} {a__c : Nat} {b__p : Option Addr} {b__n : Nat} {b__c : Nat} {w : World} {R : Ending → World → Prop} (h : fathomref01_Lists.w a__p a__n a__c b__p b__n b__c w fun v w' => R (.returned v) w') : Calls Try.prog 88 #[.slice a__p a__n a__c, .slice b__p b__n b__c] w R :=
  calls_of mixed Try.func88 fathomref01_Lists.ok rfl (fun K => fathomref01_Lists.eq a__p a__n a__c b__p b__n b__c w K) h

/-! ### fathom/lit.CheckCnf$1: function 89 (named slots 4) -/
def lit_CheckCnf_1.w (l_ : Int) (c0_ : Addr) (w : World) (K : Value → World → Prop) : Prop :=
  (Calls Try.prog 76 #[.int .i64 l_] w.drew fun e w1 => ∃ r2 : Int, e = .returned (.int .i64 r2) ∧ 
  ∃ x3 : Int, w1.cell? (c0_.add 0) = some (.int .i64 x3) ∧ 
  K (.bool (decide (r2 > x3))) w1) ∧
(∃ x4 : Int, w.drew.cell? (c0_.add 0) = some (.int .i64 x4) ∧ 
  Calls Try.prog 76 #[.int .i64 l_] w.drew fun e w5 => ∃ r6 : Int, e = .returned (.int .i64 r6) ∧ 
  K (.bool (decide (r6 > x4))) w5)
theorem lit_CheckCnf_1.eq (l_ : Int) (c0_ : Addr) (w : World) (K : Value → World → Prop) : wpF Try.prog Try.f89 .leaf [.int .i64 l_, .pointer (some c0_)] w K = lit_CheckCnf_1.w l_ c0_ w K := by kernel_rfl
theorem lit_CheckCnf_1.ok : fnOk Try.prog Try.f89 2 = true := by kernel_rfl
theorem lit_CheckCnf_1.calls {l_ : Int} {c0_ : Addr} {w : World} {R : Ending → World → Prop} (h : lit_CheckCnf_1.w l_ c0_ w fun v w' => R (.returned v) w') : Calls Try.prog 89 #[.int .i64 l_, .pointer (some c0_)] w R :=
  calls_of mixed Try.func89 lit_CheckCnf_1.ok rfl (fun K => lit_CheckCnf_1.eq l_ c0_ w K) h

/-! ### slices.DeleteFunc[[]int,int]: function 90 (named slots 5) -/
def slices_DeleteFunc_int_int.w (s__p : Option Addr) (s__n : Nat) (s__c : Nat) (del_f : FuncId) (del_v : Array Value) (w : World) (K : Value → World → Prop) : Prop :=
  Calls Try.prog 100 #[.slice s__p s__n s__c, .func (.func del_f) #[] del_v] w fun e w1 => ∃ r2 : Int, e = .returned (.int .i64 r2) ∧ 
  cnd (r2 == (-1))
  (K (.slice s__p s__n s__c) w1)
  (∃ I3 : Int → Int → World → Nat → Prop, (∃ k4, I3 r2 (IntKind.i64.wrap (r2 + (1 : Int))) w1 k4) ∧
    ∀ (i_6 : Int) (j_7 : Int) (w8 : World) (k4 : Nat) (_ : Fr), I3 i_6 j_7 w8 k4 →
    cnd (decide (j_7 < (s__n : Int)))
      (ixK s__p s__n j_7 1 fun a9 =>
        ∃ x10 : Int, w8.cell? a9 = some (.int .i64 x10) ∧ 
        cnd (entB Try.prog del_f) (Calls Try.prog del_f (#[] ++ #[.int .i64 x10] ++ del_v) w8 fun e w11 => ∃ r12 : Bool, e = .returned (.bool r12) ∧ 
        cnd (!r12)
        (ixK s__p s__n i_6 1 fun a13 =>
          ∃ w14 : World, StoreAt a13 0 [.int .i64 x10] w11 w14 ∧ 
          ∃ k5, k5 < k4 ∧ I3 (IntKind.i64.wrap (i_6 + (1 : Int))) (IntKind.i64.wrap (j_7 + (1 : Int))) w14 k5)
        (∃ k5, k5 < k4 ∧ I3 i_6 (IntKind.i64.wrap (j_7 + (1 : Int))) w11 k5)) False)
      (slK s__p s__n s__c 1 (some i_6) none none fun s15_p s15_n s15_c =>
        ∃ w16 : World, (Builtin.clear_ #[26] 0 #[.slice s15_p s15_n s15_c]).run Try.prog w8 = .ok (.tuple #[]) w16 ∧ 
        slK s__p s__n s__c 1 none (some i_6) none fun s17_p s17_n s17_c =>
        K (.slice s17_p s17_n s17_c) w16))
theorem slices_DeleteFunc_int_int.eq (s__p : Option Addr) (s__n : Nat) (s__c : Nat) (del_f : FuncId) (del_v : Array Value) (w : World) (K : Value → World → Prop) : wpF Try.prog Try.f90 (.two .leaf (.two .leaf (.two .leaf (.two (.two .leaf (.one (.loop [(5, 3), (6, 3)] .leaf))) .leaf)))) [.slice s__p s__n s__c, .func (.func del_f) #[] del_v] w K = slices_DeleteFunc_int_int.w s__p s__n s__c del_f del_v w K := by kernel_rfl
theorem slices_DeleteFunc_int_int.ok : fnOk Try.prog Try.f90 2 = true := by kernel_rfl
theorem slices_DeleteFunc_int_int.calls {s__p : Option Addr} {s__n : Nat} {s__c : Nat} {del_f : FuncId} {del_v : Array Value} {w : World} {R : Ending → World → Prop} (h : slices_DeleteFunc_int_int.w s__p s__n s__c del_f del_v w fun v w' => R (.returned v) w') : Calls Try.prog 90 #[.slice s__p s__n s__c, .func (.func del_f) #[] del_v] w R :=
  calls_of mixed Try.func90 slices_DeleteFunc_int_int.ok rfl (fun K => slices_DeleteFunc_int_int.eq s__p s__n s__c del_f del_v w K) h

/-! ### fathom/lit.Given$1: function 91 (named slots 4) -/
def lit_Given_1.w (x0_ : Int) (c0_ : Addr) (w : World) (K : Value → World → Prop) : Prop :=
  ∃ x1 : Int, w.cell? c0_ = some (.int .i64 x1) ∧ 
  Calls Try.prog 72 #[.int .i64 x1] w fun e w2 => ∃ r3 : Bool, e = .returned (.bool r3) ∧ 
  cnd r3
  (∃ x4 : Int, w2.cell? c0_ = some (.int .i64 x4) ∧ 
  K (.bool (x0_ == (IntKind.i64.wrap (0 - x4)))) w2)
  (K (.bool false) w2)
theorem lit_Given_1.eq (x0_ : Int) (c0_ : Addr) (w : World) (K : Value → World → Prop) : wpF Try.prog Try.f91 .leaf [.int .i64 x0_, .pointer (some c0_)] w K = lit_Given_1.w x0_ c0_ w K := by kernel_rfl
theorem lit_Given_1.ok : fnOk Try.prog Try.f91 2 = true := by kernel_rfl
theorem lit_Given_1.calls {x0_ : Int} {c0_ : Addr} {w : World} {R : Ending → World → Prop} (h : lit_Given_1.w x0_ c0_ w fun v w' => R (.returned v) w') : Calls Try.prog 91 #[.int .i64 x0_, .pointer (some c0_)] w R :=
  calls_of mixed Try.func91 lit_Given_1.ok rfl (fun K => lit_Given_1.eq x0_ c0_ w K) h

/-! ### slices.pdqsortCmpFunc[int]: function 98 (named slots 101) cuts [(2, 117), (2, 92), (4, 79)] -/
def slices_pdqsortCmpFunc_int.w (data__p : Option Addr) (data__n : Nat) (data__c : Nat) (a_ : Int) (b_ : Int) (limit_ : Int) (cmp_f : FuncId) (cmp_v : Array Value) (w : World) (K : Value → World → Prop) : Prop :=
  ∃ I1 : Int → Int → Int → Bool → Bool → World → Nat → Prop, (∃ k2, I1 a_ b_ limit_ true true w k2) ∧
  ∀ (a_4 : Int) (b_5 : Int) (limit_6 : Int) (wasBalanced_7 : Bool) (wasPartitioned_8 : Bool) (w9 : World) (k2 : Nat) (_ : Fr), I1 a_4 b_5 limit_6 wasBalanced_7 wasPartitioned_8 w9 k2 →
  cnd (decide ((IntKind.i64.wrap (b_5 - a_4)) ≤ (12 : Int)))
    (Calls Try.prog 104 #[.slice data__p data__n data__c, .int .i64 a_4, .int .i64 b_5, .func (.func cmp_f) #[] cmp_v] w9 fun e w10 => e = .returned (.tuple #[]) ∧ 
      K (.tuple #[]) w10)
    (cnd (limit_6 == (0 : Int))
      (Calls Try.prog 105 #[.slice data__p data__n data__c, .int .i64 a_4, .int .i64 b_5, .func (.func cmp_f) #[] cmp_v] w9 fun e w11 => e = .returned (.tuple #[]) ∧ 
        K (.tuple #[]) w11)
      (∃ J12 : Int → World → Prop, (cnd (!wasBalanced_7)
        (Calls Try.prog 106 #[.slice data__p data__n data__c, .int .i64 a_4, .int .i64 b_5, .func (.func cmp_f) #[] cmp_v] w9 fun e w13 => e = .returned (.tuple #[]) ∧ 
          J12 (IntKind.i64.wrap (limit_6 - (1 : Int))) w13)
        (J12 limit_6 w9)) ∧
        ∀ (limit_14 : Int) (w15 : World) (_ : Fr), J12 limit_14 w15 → 
        Calls Try.prog 107 #[.slice data__p data__n data__c, .int .i64 a_4, .int .i64 b_5, .func (.func cmp_f) #[] cmp_v] w15 fun e w16 => ∃ r17 : Int, ∃ r18 : Int, e = .returned (.tuple #[.int .i64 r17, .int .i64 r18]) ∧ 
        ∃ J19 : Int → Int → World → Prop, (cnd (r18 == (2 : Int))
        (Calls Try.prog 108 #[.slice data__p data__n data__c, .int .i64 a_4, .int .i64 b_5, .func (.func cmp_f) #[] cmp_v] w16 fun e w20 => e = .returned (.tuple #[]) ∧ 
          J19 (IntKind.i64.wrap ((IntKind.i64.wrap (b_5 - (1 : Int))) - (IntKind.i64.wrap (r17 - a_4)))) 1 w20)
        (J19 r17 r18 w16)) ∧
        ∀ (pivot_21 : Int) (hint_22 : Int) (w23 : World) (_ : Fr), J19 pivot_21 hint_22 w23 → 
        ∃ J24 : World → Prop, (cnd wasBalanced_7
        (cnd wasPartitioned_8
        (cnd (hint_22 == (1 : Int))
        (Calls Try.prog 109 #[.slice data__p data__n data__c, .int .i64 a_4, .int .i64 b_5, .func (.func cmp_f) #[] cmp_v] w23 fun e w25 => ∃ r26 : Bool, e = .returned (.bool r26) ∧ 
          cnd r26
          (K (.tuple #[]) w25)
          (J24 w25))
        (J24 w23))
        (J24 w23))
        (J24 w23)) ∧
        ∀ (w27 : World) (_ : Fr), J24 w27 → 
        cnd (decide (a_4 > (0 : Int)))
        (ixK data__p data__n (IntKind.i64.wrap (a_4 - (1 : Int))) 1 fun a28 =>
        ∃ x29 : Int, w27.drew.cell? a28 = some (.int .i64 x29) ∧ 
        ixK data__p data__n pivot_21 1 fun a30 =>
        ∃ x31 : Int, w27.drew.cell? a30 = some (.int .i64 x31) ∧ 
        cnd (entB Try.prog cmp_f) (Calls Try.prog cmp_f (#[] ++ #[.int .i64 x29, .int .i64 x31] ++ cmp_v) w27.drew fun e w32 => ∃ r33 : Int, e = .returned (.int .i64 r33) ∧ 
        cnd (!(decide (r33 < (0 : Int))))
        (Calls Try.prog 110 #[.slice data__p data__n data__c, .int .i64 a_4, .int .i64 b_5, .int .i64 pivot_21, .func (.func cmp_f) #[] cmp_v] w32 fun e w34 => ∃ r35 : Int, e = .returned (.int .i64 r35) ∧ 
          ∃ k3, k3 < k2 ∧ I1 r35 b_5 limit_14 wasBalanced_7 wasPartitioned_8 w34 k3)
        (Calls Try.prog 111 #[.slice data__p data__n data__c, .int .i64 a_4, .int .i64 b_5, .int .i64 pivot_21, .func (.func cmp_f) #[] cmp_v] w32 fun e w36 => ∃ r37 : Int, ∃ r38 : Bool, e = .returned (.tuple #[.int .i64 r37, .bool r38]) ∧ 
          (8 : Int) ≠ 0 ∧ cnd (decide ((IntKind.i64.wrap (r37 - a_4)) < (IntKind.i64.wrap (b_5 - r37))))
          (Calls Try.prog 98 #[.slice data__p data__n data__c, .int .i64 a_4, .int .i64 r37, .int .i64 limit_14, .func (.func cmp_f) #[] cmp_v] w36 fun e w39 => e = .returned (.tuple #[]) ∧ 
            ∃ k3, k3 < k2 ∧ I1 (IntKind.i64.wrap (r37 + (1 : Int))) b_5 limit_14 (decide ((IntKind.i64.wrap (r37 - a_4)) ≥ (IntKind.i64.wrap ((IntKind.i64.wrap (b_5 - a_4)).tdiv (8 : Int))))) r38 w39 k3)
          (Calls Try.prog 98 #[.slice data__p data__n data__c, .int .i64 (IntKind.i64.wrap (r37 + (1 : Int))), .int .i64 b_5, .int .i64 limit_14, .func (.func cmp_f) #[] cmp_v] w36 fun e w40 => e = .returned (.tuple #[]) ∧ 
            ∃ k3, k3 < k2 ∧ I1 a_4 r37 limit_14 (decide ((IntKind.i64.wrap (b_5 - r37)) ≥ (IntKind.i64.wrap ((IntKind.i64.wrap (b_5 - a_4)).tdiv (8 : Int))))) r38 w40 k3))) False)
        (Calls Try.prog 111 #[.slice data__p data__n data__c, .int .i64 a_4, .int .i64 b_5, .int .i64 pivot_21, .func (.func cmp_f) #[] cmp_v] w27.drew fun e w41 => ∃ r42 : Int, ∃ r43 : Bool, e = .returned (.tuple #[.int .i64 r42, .bool r43]) ∧ 
        (8 : Int) ≠ 0 ∧ cnd (decide ((IntKind.i64.wrap (r42 - a_4)) < (IntKind.i64.wrap (b_5 - r42))))
        (Calls Try.prog 98 #[.slice data__p data__n data__c, .int .i64 a_4, .int .i64 r42, .int .i64 limit_14, .func (.func cmp_f) #[] cmp_v] w41 fun e w44 => e = .returned (.tuple #[]) ∧ 
          ∃ k3, k3 < k2 ∧ I1 (IntKind.i64.wrap (r42 + (1 : Int))) b_5 limit_14 (decide ((IntKind.i64.wrap (r42 - a_4)) ≥ (IntKind.i64.wrap ((IntKind.i64.wrap (b_5 - a_4)).tdiv (8 : Int))))) r43 w44 k3)
        (Calls Try.prog 98 #[.slice data__p data__n data__c, .int .i64 (IntKind.i64.wrap (r42 + (1 : Int))), .int .i64 b_5, .int .i64 limit_14, .func (.func cmp_f) #[] cmp_v] w41 fun e w45 => e = .returned (.tuple #[]) ∧ 
          ∃ k3, k3 < k2 ∧ I1 a_4 r42 limit_14 (decide ((IntKind.i64.wrap (b_5 - r42)) ≥ (IntKind.i64.wrap ((IntKind.i64.wrap (b_5 - a_4)).tdiv (8 : Int))))) r43 w45 k3))))
theorem slices_pdqsortCmpFunc_int.eq (data__p : Option Addr) (data__n : Nat) (data__c : Nat) (a_ : Int) (b_ : Int) (limit_ : Int) (cmp_f : FuncId) (cmp_v : Array Value) (w : World) (K : Value → World → Prop) : wpF Try.prog Try.f98 (.two .leaf (.two .leaf (.one (.loop [(1, 3), (2, 3), (3, 3), (10, 4), (11, 4)] (.one (.two .leaf (.two .leaf (.two .leaf (.cut [(3, 3)] .leaf (.two .leaf (.cut [(13, 3), (14, 103)] .leaf (.cut [] .leaf .leaf)))))))))))) [.slice data__p data__n data__c, .int .i64 a_, .int .i64 b_, .int .i64 limit_, .func (.func cmp_f) #[] cmp_v] w K = slices_pdqsortCmpFunc_int.w data__p data__n data__c a_ b_ limit_ cmp_f cmp_v w K := by kernel_rfl
theorem slices_pdqsortCmpFunc_int.ok : fnOk Try.prog Try.f98 5 = true := by kernel_rfl
theorem slices_pdqsortCmpFunc_int.calls {data__p : Option Addr} {data__n : Nat} {data__c : Nat} {a_ : Int} {b_ : Int} {limit_ : Int} {cmp_f : FuncId} {cmp_v : Array Value} {w : World} {R : Ending → World → Prop} (h : slices_pdqsortCmpFunc_int.w data__p data__n data__c a_ b_ limit_ cmp_f cmp_v w fun v w' => R (.returned v) w') : Calls Try.prog 98 #[.slice data__p data__n data__c, .int .i64 a_, .int .i64 b_, .int .i64 limit_, .func (.func cmp_f) #[] cmp_v] w R :=
  calls_of mixed Try.func98 slices_pdqsortCmpFunc_int.ok rfl (fun K => slices_pdqsortCmpFunc_int.eq data__p data__n data__c a_ b_ limit_ cmp_f cmp_v w K) h

/-! ### math/bits.Len: function 99 (named slots 3) -/
def bits_Len.w (x0_ : Int) (w : World) (K : Value → World → Prop) : Prop :=
  Calls Try.prog 113 #[.int .u64 x0_] w fun e w1 => ∃ r2 : Int, e = .returned (.int .i64 r2) ∧ 
  K (.int .i64 r2) w1
theorem bits_Len.eq (x0_ : Int) (w : World) (K : Value → World → Prop) : wpF Try.prog Try.f99 .leaf [.int .u64 x0_] w K = bits_Len.w x0_ w K := by kernel_rfl
theorem bits_Len.ok : fnOk Try.prog Try.f99 1 = true := by kernel_rfl
theorem bits_Len.calls {x0_ : Int} {w : World} {R : Ending → World → Prop} (h : bits_Len.w x0_ w fun v w' => R (.returned v) w') : Calls Try.prog 99 #[.int .u64 x0_] w R :=
  calls_of mixed Try.func99 bits_Len.ok rfl (fun K => bits_Len.eq x0_ w K) h

/-! ### slices.IndexFunc[[]int,int]: function 100 (named slots 5) -/
def slices_IndexFunc_int_int.w (s__p : Option Addr) (s__n : Nat) (s__c : Nat) (f_f : FuncId) (f_v : Array Value) (w : World) (K : Value → World → Prop) : Prop :=
  ∃ I1 : Int → World → Nat → Prop, (∃ k2, I1 0 w k2) ∧
  ∀ (v4 : Int) (w5 : World) (k2 : Nat) (_ : Fr), I1 v4 w5 k2 →
  cnd (decide (v4 < (s__n : Int)))
    (ixK s__p s__n v4 1 fun a6 =>
      ∃ x7 : Int, w5.cell? a6 = some (.int .i64 x7) ∧ 
      cnd (entB Try.prog f_f) (Calls Try.prog f_f (#[] ++ #[.int .i64 x7] ++ f_v) w5 fun e w8 => ∃ r9 : Bool, e = .returned (.bool r9) ∧ 
      cnd r9
      (K (.int .i64 v4) w8)
      (∃ k3, k3 < k2 ∧ I1 (IntKind.i64.wrap (v4 + (1 : Int))) w8 k3)) False)
    (K (.int .i64 (-1)) w5)
theorem slices_IndexFunc_int_int.eq (s__p : Option Addr) (s__n : Nat) (s__c : Nat) (f_f : FuncId) (f_v : Array Value) (w : World) (K : Value → World → Prop) : wpF Try.prog Try.f100 (.two .leaf (.two (.two .leaf (.one (.loop [(8, 3)] .leaf))) .leaf)) [.slice s__p s__n s__c, .func (.func f_f) #[] f_v] w K = slices_IndexFunc_int_int.w s__p s__n s__c f_f f_v w K := by kernel_rfl
theorem slices_IndexFunc_int_int.ok : fnOk Try.prog Try.f100 2 = true := by kernel_rfl
theorem slices_IndexFunc_int_int.calls {s__p : Option Addr} {s__n : Nat} {s__c : Nat} {f_f : FuncId} {f_v : Array Value} {w : World} {R : Ending → World → Prop} (h : slices_IndexFunc_int_int.w s__p s__n s__c f_f f_v w fun v w' => R (.returned v) w') : Calls Try.prog 100 #[.slice s__p s__n s__c, .func (.func f_f) #[] f_v] w R :=
  calls_of mixed Try.func100 slices_IndexFunc_int_int.ok rfl (fun K => slices_IndexFunc_int_int.eq s__p s__n s__c f_f f_v w K) h

/-! ### slices.Index[[]int,int]: function 101 (named slots 5) -/
def slices_Index_int_int.w (s__p : Option Addr) (s__n : Nat) (s__c : Nat) (v_ : Int) (w : World) (K : Value → World → Prop) : Prop :=
  ∃ I1 : Int → World → Nat → Prop, (∃ k2, I1 0 w k2) ∧
  ∀ (v4 : Int) (w5 : World) (k2 : Nat) (_ : Fr), I1 v4 w5 k2 →
  cnd (decide (v4 < (s__n : Int)))
    (ixK s__p s__n v4 1 fun a6 =>
      ∃ x7 : Int, w5.cell? a6 = some (.int .i64 x7) ∧ 
      cnd (v_ == x7)
      (K (.int .i64 v4) w5)
      (∃ k3, k3 < k2 ∧ I1 (IntKind.i64.wrap (v4 + (1 : Int))) w5 k3))
    (K (.int .i64 (-1)) w5)
theorem slices_Index_int_int.eq (s__p : Option Addr) (s__n : Nat) (s__c : Nat) (v_ : Int) (w : World) (K : Value → World → Prop) : wpF Try.prog Try.f101 (.two .leaf (.two (.two .leaf (.one (.loop [(8, 3)] .leaf))) .leaf)) [.slice s__p s__n s__c, .int .i64 v_] w K = slices_Index_int_int.w s__p s__n s__c v_ w K := by kernel_rfl
theorem slices_Index_int_int.ok : fnOk Try.prog Try.f101 2 = true := by kernel_rfl
theorem slices_Index_int_int.calls {s__p : Option Addr} {s__n : Nat} {s__c : Nat} {v_ : Int} {w : World} {R : Ending → World → Prop} (h : slices_Index_int_int.w s__p s__n s__c v_ w fun v w' => R (.returned v) w') : Calls Try.prog 101 #[.slice s__p s__n s__c, .int .i64 v_] w R :=
  calls_of mixed Try.func101 slices_Index_int_int.ok rfl (fun K => slices_Index_int_int.eq s__p s__n s__c v_ w K) h

/-! ### slices.insertionSortCmpFunc[int]: function 104 (named slots 106) -/
def slices_insertionSortCmpFunc_int.w (data__p : Option Addr) (data__n : Nat) (data__c : Nat) (a_ : Int) (b_ : Int) (cmp_f : FuncId) (cmp_v : Array Value) (w : World) (K : Value → World → Prop) : Prop :=
  ∃ I1 : Int → World → Nat → Prop, (∃ k2, I1 (IntKind.i64.wrap (a_ + (1 : Int))) w k2) ∧
  ∀ (i_4 : Int) (w5 : World) (k2 : Nat) (_ : Fr), I1 i_4 w5 k2 →
  cnd (decide (i_4 < b_))
    (∃ I6 : Int → World → Nat → Prop, (∃ k7, I6 i_4 w5 k7) ∧
      ∀ (j_9 : Int) (w10 : World) (k7 : Nat) (_ : Fr), I6 j_9 w10 k7 →
      cnd (decide (j_9 > a_))
        (ixK data__p data__n j_9 1 fun a11 =>
        ∃ x12 : Int, w10.drew.cell? a11 = some (.int .i64 x12) ∧ 
        ixK data__p data__n (IntKind.i64.wrap (j_9 - (1 : Int))) 1 fun a13 =>
        ∃ x14 : Int, w10.drew.cell? a13 = some (.int .i64 x14) ∧ 
        cnd (entB Try.prog cmp_f) (Calls Try.prog cmp_f (#[] ++ #[.int .i64 x12, .int .i64 x14] ++ cmp_v) w10.drew fun e w15 => ∃ r16 : Int, e = .returned (.int .i64 r16) ∧ 
        cnd (decide (r16 < (0 : Int)))
        (ixK data__p data__n (IntKind.i64.wrap (j_9 - (1 : Int))) 1 fun a17 =>
          ∃ x18 : Int, w15.drew.cell? a17 = some (.int .i64 x18) ∧ 
          ixK data__p data__n j_9 1 fun a19 =>
          ∃ x20 : Int, w15.drew.cell? a19 = some (.int .i64 x20) ∧ 
          ixK data__p data__n j_9 1 fun a21 =>
          ∃ w22 : World, StoreAt a21 0 [.int .i64 x18] w15.drew w22 ∧ 
          ixK data__p data__n (IntKind.i64.wrap (j_9 - (1 : Int))) 1 fun a23 =>
          ∃ w24 : World, StoreAt a23 0 [.int .i64 x20] w22 w24 ∧ 
          ∃ k8, k8 < k7 ∧ I6 (IntKind.i64.wrap (j_9 - (1 : Int))) w24 k8)
        (∃ k3, k3 < k2 ∧ I1 (IntKind.i64.wrap (i_4 + (1 : Int))) w15 k3)) False)
        (∃ k3, k3 < k2 ∧ I1 (IntKind.i64.wrap (i_4 + (1 : Int))) w10.drew k3))
    (K (.tuple #[]) w5)
theorem slices_insertionSortCmpFunc_int.eq (data__p : Option Addr) (data__n : Nat) (data__c : Nat) (a_ : Int) (b_ : Int) (cmp_f : FuncId) (cmp_v : Array Value) (w : World) (K : Value → World → Prop) : wpF Try.prog Try.f104 (.two .leaf (.one (.loop [(8, 3)] (.two .leaf (.two (.one (.two .leaf (.one (.loop [(9, 3)] .leaf)))) .leaf))))) [.slice data__p data__n data__c, .int .i64 a_, .int .i64 b_, .func (.func cmp_f) #[] cmp_v] w K = slices_insertionSortCmpFunc_int.w data__p data__n data__c a_ b_ cmp_f cmp_v w K := by kernel_rfl
theorem slices_insertionSortCmpFunc_int.ok : fnOk Try.prog Try.f104 4 = true := by kernel_rfl
theorem slices_insertionSortCmpFunc_int.calls {data__p : Option Addr} {data__n : Nat} {data__c : Nat} {a_ : Int} {b_ : Int} {cmp_f : FuncId} {cmp_v : Array Value} {w : World} {R : Ending → World → Prop} (h : slices_insertionSortCmpFunc_int.w data__p data__n data__c a_ b_ cmp_f cmp_v w fun v w' => R (.returned v) w') : Calls Try.prog 104 #[.slice data__p data__n data__c, .int .i64 a_, .int .i64 b_, .func (.func cmp_f) #[] cmp_v] w R :=
  calls_of mixed Try.func104 slices_insertionSortCmpFunc_int.ok rfl (fun K => slices_insertionSortCmpFunc_int.eq data__p data__n data__c a_ b_ cmp_f cmp_v w K) h

/-! ### slices.heapSortCmpFunc[int]: function 105 (named slots 106) -/
def slices_heapSortCmpFunc_int.w (data__p : Option Addr) (data__n : Nat) (data__c : Nat) (a_ : Int) (b_ : Int) (cmp_f : FuncId) (cmp_v : Array Value) (w : World) (K : Value → World → Prop) : Prop :=
  (2 : Int) ≠ 0 ∧ ∃ I1 : Int → World → Nat → Prop, (∃ k2, I1 (IntKind.i64.wrap ((IntKind.i64.wrap ((IntKind.i64.wrap (b_ - a_)) - (1 : Int))).tdiv (2 : Int))) w k2) ∧
  ∀ (i_4 : Int) (w5 : World) (k2 : Nat) (_ : Fr), I1 i_4 w5 k2 →
  cnd (decide (i_4 ≥ (0 : Int)))
    (Calls Try.prog 114 #[.slice data__p data__n data__c, .int .i64 i_4, .int .i64 (IntKind.i64.wrap (b_ - a_)), .int .i64 a_, .func (.func cmp_f) #[] cmp_v] w5 fun e w6 => e = .returned (.tuple #[]) ∧ 
      ∃ k3, k3 < k2 ∧ I1 (IntKind.i64.wrap (i_4 - (1 : Int))) w6 k3)
    (∃ I7 : Int → World → Nat → Prop, (∃ k8, I7 (IntKind.i64.wrap ((IntKind.i64.wrap (b_ - a_)) - (1 : Int))) w5 k8) ∧
      ∀ (i_10 : Int) (w11 : World) (k8 : Nat) (_ : Fr), I7 i_10 w11 k8 →
      cnd (decide (i_10 ≥ (0 : Int)))
        (ixK data__p data__n (IntKind.i64.wrap (a_ + i_10)) 1 fun a12 =>
          ∃ x13 : Int, w11.drew.cell? a12 = some (.int .i64 x13) ∧ 
          ixK data__p data__n a_ 1 fun a14 =>
          ∃ x15 : Int, w11.drew.cell? a14 = some (.int .i64 x15) ∧ 
          ixK data__p data__n a_ 1 fun a16 =>
          ∃ w17 : World, StoreAt a16 0 [.int .i64 x13] w11.drew w17 ∧ 
          ixK data__p data__n (IntKind.i64.wrap (a_ + i_10)) 1 fun a18 =>
          ∃ w19 : World, StoreAt a18 0 [.int .i64 x15] w17 w19 ∧ 
          Calls Try.prog 114 #[.slice data__p data__n data__c, .int .i64 0, .int .i64 i_10, .int .i64 a_, .func (.func cmp_f) #[] cmp_v] w19 fun e w20 => e = .returned (.tuple #[]) ∧ 
          ∃ k9, k9 < k8 ∧ I7 (IntKind.i64.wrap (i_10 - (1 : Int))) w20 k9)
        (K (.tuple #[]) w11))
theorem slices_heapSortCmpFunc_int.eq (data__p : Option Addr) (data__n : Nat) (data__c : Nat) (a_ : Int) (b_ : Int) (cmp_f : FuncId) (cmp_v : Array Value) (w : World) (K : Value → World → Prop) : wpF Try.prog Try.f105 (.two .leaf (.two .leaf (.two .leaf (.two (.two .leaf (.one (.loop [(11, 3)] .leaf))) (.two .leaf (.one (.loop [(12, 3)] .leaf))))))) [.slice data__p data__n data__c, .int .i64 a_, .int .i64 b_, .func (.func cmp_f) #[] cmp_v] w K = slices_heapSortCmpFunc_int.w data__p data__n data__c a_ b_ cmp_f cmp_v w K := by kernel_rfl
theorem slices_heapSortCmpFunc_int.ok : fnOk Try.prog Try.f105 4 = true := by kernel_rfl
theorem slices_heapSortCmpFunc_int.calls {data__p : Option Addr} {data__n : Nat} {data__c : Nat} {a_ : Int} {b_ : Int} {cmp_f : FuncId} {cmp_v : Array Value} {w : World} {R : Ending → World → Prop} (h : slices_heapSortCmpFunc_int.w data__p data__n data__c a_ b_ cmp_f cmp_v w fun v w' => R (.returned v) w') : Calls Try.prog 105 #[.slice data__p data__n data__c, .int .i64 a_, .int .i64 b_, .func (.func cmp_f) #[] cmp_v] w R :=
  calls_of mixed Try.func105 slices_heapSortCmpFunc_int.ok rfl (fun K => slices_heapSortCmpFunc_int.eq data__p data__n data__c a_ b_ cmp_f cmp_v w K) h

/-! ### slices.breakPatternsCmpFunc[int]: function 106 (named slots 106) -/
def slices_breakPatternsCmpFunc_int.w (data__p : Option Addr) (data__n : Nat) (data__c : Nat) (a_ : Int) (b_ : Int) (cmp_f : FuncId) (cmp_v : Array Value) (w : World) (K : Value → World → Prop) : Prop :=
  cnd (decide ((IntKind.i64.wrap (b_ - a_)) ≥ (8 : Int)))
  (∀ (n1 : Nat) (w2 : World), New (.cells #[.int .u64 0] 114) w n1 w2 → 
    ∃ w3 : World, StoreAt (Addr.mk n1 0 none) 0 [.int .u64 (IntKind.u64.wrap (IntKind.i64.wrap (b_ - a_)))] w2 w3 ∧ 
    Calls Try.prog 115 #[.int .i64 (IntKind.i64.wrap (b_ - a_))] w3 fun e w4 => ∃ r5 : Int, e = .returned (.int .u64 r5) ∧ 
    (4 : Int) ≠ 0 ∧ ∃ I6 : Int → World → Nat → Prop, (∃ k7, I6 (IntKind.i64.wrap ((IntKind.i64.wrap (a_ + (IntKind.i64.wrap ((IntKind.i64.wrap ((IntKind.i64.wrap (b_ - a_)).tdiv (4 : Int))) * (2 : Int))))) - (1 : Int))) w4 k7) ∧
    ∀ (idx_9 : Int) (w10 : World) (k7 : Nat) (_ : Fr), I6 idx_9 w10 k7 →
    (4 : Int) ≠ 0 ∧ cnd (decide (idx_9 ≤ (IntKind.i64.wrap ((IntKind.i64.wrap (a_ + (IntKind.i64.wrap ((IntKind.i64.wrap ((IntKind.i64.wrap (b_ - a_)).tdiv (4 : Int))) * (2 : Int))))) + (1 : Int)))))
      (Calls Try.prog 116 #[.pointer (some (Addr.mk n1 0 none))] w10 fun e w11 => ∃ r12 : Int, e = .returned (.int .u64 r12) ∧ 
        cnd (decide ((IntKind.i64.wrap (IntKind.u64.wrap ((BitVec.ofInt (IntKind.bits .u64) r12 &&& BitVec.ofInt (IntKind.bits .u64) (IntKind.u64.wrap (r5 - (1 : Int)))).toNat))) ≥ (IntKind.i64.wrap (b_ - a_))))
        (ixK data__p data__n (IntKind.i64.wrap (a_ + (IntKind.i64.wrap ((IntKind.i64.wrap (IntKind.u64.wrap ((BitVec.ofInt (IntKind.bits .u64) r12 &&& BitVec.ofInt (IntKind.bits .u64) (IntKind.u64.wrap (r5 - (1 : Int)))).toNat))) - (IntKind.i64.wrap (b_ - a_)))))) 1 fun a13 =>
          ∃ x14 : Int, w11.drew.cell? a13 = some (.int .i64 x14) ∧ 
          ixK data__p data__n idx_9 1 fun a15 =>
          ∃ x16 : Int, w11.drew.cell? a15 = some (.int .i64 x16) ∧ 
          ixK data__p data__n idx_9 1 fun a17 =>
          ∃ w18 : World, StoreAt a17 0 [.int .i64 x14] w11.drew w18 ∧ 
          ixK data__p data__n (IntKind.i64.wrap (a_ + (IntKind.i64.wrap ((IntKind.i64.wrap (IntKind.u64.wrap ((BitVec.ofInt (IntKind.bits .u64) r12 &&& BitVec.ofInt (IntKind.bits .u64) (IntKind.u64.wrap (r5 - (1 : Int)))).toNat))) - (IntKind.i64.wrap (b_ - a_)))))) 1 fun a19 =>
          ∃ w20 : World, StoreAt a19 0 [.int .i64 x16] w18 w20 ∧ 
          ∃ k8, k8 < k7 ∧ I6 (IntKind.i64.wrap (idx_9 + (1 : Int))) w20 k8)
        (ixK data__p data__n (IntKind.i64.wrap (a_ + (IntKind.i64.wrap (IntKind.u64.wrap ((BitVec.ofInt (IntKind.bits .u64) r12 &&& BitVec.ofInt (IntKind.bits .u64) (IntKind.u64.wrap (r5 - (1 : Int)))).toNat))))) 1 fun a21 =>
          ∃ x22 : Int, w11.drew.cell? a21 = some (.int .i64 x22) ∧ 
          ixK data__p data__n idx_9 1 fun a23 =>
          ∃ x24 : Int, w11.drew.cell? a23 = some (.int .i64 x24) ∧ 
          ixK data__p data__n idx_9 1 fun a25 =>
          ∃ w26 : World, StoreAt a25 0 [.int .i64 x22] w11.drew w26 ∧ 
          ixK data__p data__n (IntKind.i64.wrap (a_ + (IntKind.i64.wrap (IntKind.u64.wrap ((BitVec.ofInt (IntKind.bits .u64) r12 &&& BitVec.ofInt (IntKind.bits .u64) (IntKind.u64.wrap (r5 - (1 : Int)))).toNat))))) 1 fun a27 =>
          ∃ w28 : World, StoreAt a27 0 [.int .i64 x24] w26 w28 ∧ 
          ∃ k8, k8 < k7 ∧ I6 (IntKind.i64.wrap (idx_9 + (1 : Int))) w28 k8))
      (K (.tuple #[]) w10))
  (K (.tuple #[]) w)
theorem slices_breakPatternsCmpFunc_int.eq (data__p : Option Addr) (data__n : Nat) (data__c : Nat) (a_ : Int) (b_ : Int) (cmp_f : FuncId) (cmp_v : Array Value) (w : World) (K : Value → World → Prop) : wpF Try.prog Try.f106 (.two .leaf (.two .leaf (.two (.two .leaf (.two .leaf (.two .leaf (.one (.loop [(11, 3)] .leaf))))) .leaf))) [.slice data__p data__n data__c, .int .i64 a_, .int .i64 b_, .func (.func cmp_f) #[] cmp_v] w K = slices_breakPatternsCmpFunc_int.w data__p data__n data__c a_ b_ cmp_f cmp_v w K := by kernel_rfl
theorem slices_breakPatternsCmpFunc_int.ok : fnOk Try.prog Try.f106 4 = true := by kernel_rfl
theorem slices_breakPatternsCmpFunc_int.calls {data__p : Option Addr} {data__n : Nat} {data__c : Nat} {a_ : Int} {b_ : Int} {cmp_f : FuncId} {cmp_v : Array Value} {w : World} {R : Ending → World → Prop} (h : slices_breakPatternsCmpFunc_int.w data__p data__n data__c a_ b_ cmp_f cmp_v w fun v w' => R (.returned v) w') : Calls Try.prog 106 #[.slice data__p data__n data__c, .int .i64 a_, .int .i64 b_, .func (.func cmp_f) #[] cmp_v] w R :=
  calls_of mixed Try.func106 slices_breakPatternsCmpFunc_int.ok rfl (fun K => slices_breakPatternsCmpFunc_int.eq data__p data__n data__c a_ b_ cmp_f cmp_v w K) h

/-! ### slices.choosePivotCmpFunc[int]: function 107 (named slots 109) -/
def slices_choosePivotCmpFunc_int.w (data__p : Option Addr) (data__n : Nat) (data__c : Nat) (a_ : Int) (b_ : Int) (cmp_f : FuncId) (cmp_v : Array Value) (w : World) (K : Value → World → Prop) : Prop :=
  ∀ (n1 : Nat) (w2 : World), New (.cells #[.int .i64 0] 3) w n1 w2 → 
  (4 : Int) ≠ 0 ∧ (4 : Int) ≠ 0 ∧ (4 : Int) ≠ 0 ∧ cnd (decide ((IntKind.i64.wrap (b_ - a_)) ≥ (8 : Int)))
  (cnd (decide ((IntKind.i64.wrap (b_ - a_)) ≥ (50 : Int)))
    (Calls Try.prog 117 #[.slice data__p data__n data__c, .int .i64 (IntKind.i64.wrap (a_ + (IntKind.i64.wrap ((IntKind.i64.wrap ((IntKind.i64.wrap (b_ - a_)).tdiv (4 : Int))) * (1 : Int))))), .pointer (some (Addr.mk n1 0 none)), .func (.func cmp_f) #[] cmp_v] w2 fun e w3 => ∃ r4 : Int, e = .returned (.int .i64 r4) ∧ 
      Calls Try.prog 117 #[.slice data__p data__n data__c, .int .i64 (IntKind.i64.wrap (a_ + (IntKind.i64.wrap ((IntKind.i64.wrap ((IntKind.i64.wrap (b_ - a_)).tdiv (4 : Int))) * (2 : Int))))), .pointer (some (Addr.mk n1 0 none)), .func (.func cmp_f) #[] cmp_v] w3 fun e w5 => ∃ r6 : Int, e = .returned (.int .i64 r6) ∧ 
      Calls Try.prog 117 #[.slice data__p data__n data__c, .int .i64 (IntKind.i64.wrap (a_ + (IntKind.i64.wrap ((IntKind.i64.wrap ((IntKind.i64.wrap (b_ - a_)).tdiv (4 : Int))) * (3 : Int))))), .pointer (some (Addr.mk n1 0 none)), .func (.func cmp_f) #[] cmp_v] w5 fun e w7 => ∃ r8 : Int, e = .returned (.int .i64 r8) ∧ 
      Calls Try.prog 118 #[.slice data__p data__n data__c, .int .i64 r4, .int .i64 r6, .int .i64 r8, .pointer (some (Addr.mk n1 0 none)), .func (.func cmp_f) #[] cmp_v] w7 fun e w9 => ∃ r10 : Int, e = .returned (.int .i64 r10) ∧ 
      ∃ x11 : Int, w9.cell? (Addr.mk n1 0 none) = some (.int .i64 x11) ∧ 
      cnd (x11 == (0 : Int))
      (K (.tuple #[.int .i64 r10, .int .i64 1]) w9)
      (cnd (x11 == (12 : Int))
        (K (.tuple #[.int .i64 r10, .int .i64 2]) w9)
        (K (.tuple #[.int .i64 r10, .int .i64 0]) w9)))
    (Calls Try.prog 118 #[.slice data__p data__n data__c, .int .i64 (IntKind.i64.wrap (a_ + (IntKind.i64.wrap ((IntKind.i64.wrap ((IntKind.i64.wrap (b_ - a_)).tdiv (4 : Int))) * (1 : Int))))), .int .i64 (IntKind.i64.wrap (a_ + (IntKind.i64.wrap ((IntKind.i64.wrap ((IntKind.i64.wrap (b_ - a_)).tdiv (4 : Int))) * (2 : Int))))), .int .i64 (IntKind.i64.wrap (a_ + (IntKind.i64.wrap ((IntKind.i64.wrap ((IntKind.i64.wrap (b_ - a_)).tdiv (4 : Int))) * (3 : Int))))), .pointer (some (Addr.mk n1 0 none)), .func (.func cmp_f) #[] cmp_v] w2 fun e w12 => ∃ r13 : Int, e = .returned (.int .i64 r13) ∧ 
      ∃ x14 : Int, w12.cell? (Addr.mk n1 0 none) = some (.int .i64 x14) ∧ 
      cnd (x14 == (0 : Int))
      (K (.tuple #[.int .i64 r13, .int .i64 1]) w12)
      (cnd (x14 == (12 : Int))
        (K (.tuple #[.int .i64 r13, .int .i64 2]) w12)
        (K (.tuple #[.int .i64 r13, .int .i64 0]) w12))))
  (∃ x15 : Int, w2.cell? (Addr.mk n1 0 none) = some (.int .i64 x15) ∧ 
    cnd (x15 == (0 : Int))
    (K (.tuple #[.int .i64 (IntKind.i64.wrap (a_ + (IntKind.i64.wrap ((IntKind.i64.wrap ((IntKind.i64.wrap (b_ - a_)).tdiv (4 : Int))) * (2 : Int))))), .int .i64 1]) w2)
    (cnd (x15 == (12 : Int))
      (K (.tuple #[.int .i64 (IntKind.i64.wrap (a_ + (IntKind.i64.wrap ((IntKind.i64.wrap ((IntKind.i64.wrap (b_ - a_)).tdiv (4 : Int))) * (2 : Int))))), .int .i64 2]) w2)
      (K (.tuple #[.int .i64 (IntKind.i64.wrap (a_ + (IntKind.i64.wrap ((IntKind.i64.wrap ((IntKind.i64.wrap (b_ - a_)).tdiv (4 : Int))) * (2 : Int))))), .int .i64 0]) w2)))
theorem slices_choosePivotCmpFunc_int.eq (data__p : Option Addr) (data__n : Nat) (data__c : Nat) (a_ : Int) (b_ : Int) (cmp_f : FuncId) (cmp_v : Array Value) (w : World) (K : Value → World → Prop) : wpF Try.prog Try.f107 .leaf [.slice data__p data__n data__c, .int .i64 a_, .int .i64 b_, .func (.func cmp_f) #[] cmp_v] w K = slices_choosePivotCmpFunc_int.w data__p data__n data__c a_ b_ cmp_f cmp_v w K := by kernel_rfl
theorem slices_choosePivotCmpFunc_int.ok : fnOk Try.prog Try.f107 4 = true := by kernel_rfl
theorem slices_choosePivotCmpFunc_int.calls {data__p : Option Addr} {data__n : Nat} {data__c : Nat} {a_ : Int} {b_ : Int} {cmp_f : FuncId} {cmp_v : Array Value} {w : World} {R : Ending → World → Prop} (h : slices_choosePivotCmpFunc_int.w data__p data__n data__c a_ b_ cmp_f cmp_v w fun v w' => R (.returned v) w') : Calls Try.prog 107 #[.slice data__p data__n data__c, .int .i64 a_, .int .i64 b_, .func (.func cmp_f) #[] cmp_v] w R :=
  calls_of mixed Try.func107 slices_choosePivotCmpFunc_int.ok rfl (fun K => slices_choosePivotCmpFunc_int.eq data__p data__n data__c a_ b_ cmp_f cmp_v w K) h

/-! ### slices.reverseRangeCmpFunc[int]: function 108 (named slots 106) -/
def slices_reverseRangeCmpFunc_int.w (data__p : Option Addr) (data__n : Nat) (data__c : Nat) (a_ : Int) (b_ : Int) (cmp_f : FuncId) (cmp_v : Array Value) (w : World) (K : Value → World → Prop) : Prop :=
  ∃ I1 : Int → Int → World → Nat → Prop, (∃ k2, I1 a_ (IntKind.i64.wrap (b_ - (1 : Int))) w k2) ∧
  ∀ (i_4 : Int) (j_5 : Int) (w6 : World) (k2 : Nat) (_ : Fr), I1 i_4 j_5 w6 k2 →
  cnd (decide (i_4 < j_5))
    (ixK data__p data__n j_5 1 fun a7 =>
      ∃ x8 : Int, w6.drew.cell? a7 = some (.int .i64 x8) ∧ 
      ixK data__p data__n i_4 1 fun a9 =>
      ∃ x10 : Int, w6.drew.cell? a9 = some (.int .i64 x10) ∧ 
      ixK data__p data__n i_4 1 fun a11 =>
      ∃ w12 : World, StoreAt a11 0 [.int .i64 x8] w6.drew w12 ∧ 
      ixK data__p data__n j_5 1 fun a13 =>
      ∃ w14 : World, StoreAt a13 0 [.int .i64 x10] w12 w14 ∧ 
      ∃ k3, k3 < k2 ∧ I1 (IntKind.i64.wrap (i_4 + (1 : Int))) (IntKind.i64.wrap (j_5 - (1 : Int))) w14 k3)
    (K (.tuple #[]) w6)
theorem slices_reverseRangeCmpFunc_int.eq (data__p : Option Addr) (data__n : Nat) (data__c : Nat) (a_ : Int) (b_ : Int) (cmp_f : FuncId) (cmp_v : Array Value) (w : World) (K : Value → World → Prop) : wpF Try.prog Try.f108 (.two .leaf (.two .leaf (.one (.loop [(8, 3), (9, 3)] .leaf)))) [.slice data__p data__n data__c, .int .i64 a_, .int .i64 b_, .func (.func cmp_f) #[] cmp_v] w K = slices_reverseRangeCmpFunc_int.w data__p data__n data__c a_ b_ cmp_f cmp_v w K := by kernel_rfl
theorem slices_reverseRangeCmpFunc_int.ok : fnOk Try.prog Try.f108 4 = true := by kernel_rfl
theorem slices_reverseRangeCmpFunc_int.calls {data__p : Option Addr} {data__n : Nat} {data__c : Nat} {a_ : Int} {b_ : Int} {cmp_f : FuncId} {cmp_v : Array Value} {w : World} {R : Ending → World → Prop} (h : slices_reverseRangeCmpFunc_int.w data__p data__n data__c a_ b_ cmp_f cmp_v w fun v w' => R (.returned v) w') : Calls Try.prog 108 #[.slice data__p data__n data__c, .int .i64 a_, .int .i64 b_, .func (.func cmp_f) #[] cmp_v] w R :=
  calls_of mixed Try.func108 slices_reverseRangeCmpFunc_int.ok rfl (fun K => slices_reverseRangeCmpFunc_int.eq data__p data__n data__c a_ b_ cmp_f cmp_v w K) h

/-! ### slices.partialInsertionSortCmpFunc[int]: function 109 (named slots 110) cuts [(2, 114), (3, 44)] -/
def slices_partialInsertionSortCmpFunc_int.w (data__p : Option Addr) (data__n : Nat) (data__c : Nat) (a_ : Int) (b_ : Int) (cmp_f : FuncId) (cmp_v : Array Value) (w : World) (K : Value → World → Prop) : Prop :=
  ∃ I1 : Int → Int → World → Nat → Prop, (∃ k2, I1 (IntKind.i64.wrap (a_ + (1 : Int))) 0 w k2) ∧
  ∀ (i_4 : Int) (j_5 : Int) (w6 : World) (k2 : Nat) (_ : Fr), I1 i_4 j_5 w6 k2 →
  cnd (decide (j_5 < (5 : Int)))
    (∃ J7 : Int → World → Prop, (∃ I8 : Int → World → Nat → Prop, (∃ k9, I8 i_4 w6 k9) ∧
      ∀ (i_11 : Int) (w12 : World) (k9 : Nat) (_ : Fr), I8 i_11 w12 k9 →
      cnd (decide (i_11 < b_))
        (ixK data__p data__n i_11 1 fun a13 =>
        ∃ x14 : Int, w12.drew.cell? a13 = some (.int .i64 x14) ∧ 
        ixK data__p data__n (IntKind.i64.wrap (i_11 - (1 : Int))) 1 fun a15 =>
        ∃ x16 : Int, w12.drew.cell? a15 = some (.int .i64 x16) ∧ 
        cnd (entB Try.prog cmp_f) (Calls Try.prog cmp_f (#[] ++ #[.int .i64 x14, .int .i64 x16] ++ cmp_v) w12.drew fun e w17 => ∃ r18 : Int, e = .returned (.int .i64 r18) ∧ 
        cnd (!(decide (r18 < (0 : Int))))
        (∃ k10, k10 < k9 ∧ I8 (IntKind.i64.wrap (i_11 + (1 : Int))) w17 k10)
        (J7 i_11 w17)) False)
        (J7 i_11 w12.drew)) ∧
      ∀ (i_19 : Int) (w20 : World) (_ : Fr), J7 i_19 w20 → 
      cnd (i_19 == b_)
      (K (.bool true) w20)
      (cnd (decide ((IntKind.i64.wrap (b_ - a_)) < (50 : Int)))
        (K (.bool false) w20)
        (ixK data__p data__n (IntKind.i64.wrap (i_19 - (1 : Int))) 1 fun a21 =>
          ∃ x22 : Int, w20.drew.cell? a21 = some (.int .i64 x22) ∧ 
          ixK data__p data__n i_19 1 fun a23 =>
          ∃ x24 : Int, w20.drew.cell? a23 = some (.int .i64 x24) ∧ 
          ixK data__p data__n i_19 1 fun a25 =>
          ∃ w26 : World, StoreAt a25 0 [.int .i64 x22] w20.drew w26 ∧ 
          ixK data__p data__n (IntKind.i64.wrap (i_19 - (1 : Int))) 1 fun a27 =>
          ∃ w28 : World, StoreAt a27 0 [.int .i64 x24] w26 w28 ∧ 
          ∃ J29 : World → Prop, (cnd (decide ((IntKind.i64.wrap (i_19 - a_)) ≥ (2 : Int)))
          (∃ I30 : Int → World → Nat → Prop, (∃ k31, I30 (IntKind.i64.wrap (i_19 - (1 : Int))) w28 k31) ∧
            ∀ (j_33 : Int) (w34 : World) (k31 : Nat) (_ : Fr), I30 j_33 w34 k31 →
            cnd (decide (j_33 ≥ (1 : Int)))
              (ixK data__p data__n j_33 1 fun a35 =>
                ∃ x36 : Int, w34.drew.cell? a35 = some (.int .i64 x36) ∧ 
                ixK data__p data__n (IntKind.i64.wrap (j_33 - (1 : Int))) 1 fun a37 =>
                ∃ x38 : Int, w34.drew.cell? a37 = some (.int .i64 x38) ∧ 
                cnd (entB Try.prog cmp_f) (Calls Try.prog cmp_f (#[] ++ #[.int .i64 x36, .int .i64 x38] ++ cmp_v) w34.drew fun e w39 => ∃ r40 : Int, e = .returned (.int .i64 r40) ∧ 
                cnd (!(decide (r40 < (0 : Int))))
                (J29 w39)
                (ixK data__p data__n (IntKind.i64.wrap (j_33 - (1 : Int))) 1 fun a41 =>
                  ∃ x42 : Int, w39.drew.cell? a41 = some (.int .i64 x42) ∧ 
                  ixK data__p data__n j_33 1 fun a43 =>
                  ∃ x44 : Int, w39.drew.cell? a43 = some (.int .i64 x44) ∧ 
                  ixK data__p data__n j_33 1 fun a45 =>
                  ∃ w46 : World, StoreAt a45 0 [.int .i64 x42] w39.drew w46 ∧ 
                  ixK data__p data__n (IntKind.i64.wrap (j_33 - (1 : Int))) 1 fun a47 =>
                  ∃ w48 : World, StoreAt a47 0 [.int .i64 x44] w46 w48 ∧ 
                  ∃ k32, k32 < k31 ∧ I30 (IntKind.i64.wrap (j_33 - (1 : Int))) w48 k32)) False)
              (J29 w34))
          (J29 w28)) ∧
          ∀ (w49 : World) (_ : Fr), J29 w49 → 
          cnd (decide ((IntKind.i64.wrap (b_ - i_19)) ≥ (2 : Int)))
          (∃ I50 : Int → World → Nat → Prop, (∃ k51, I50 (IntKind.i64.wrap (i_19 + (1 : Int))) w49 k51) ∧
            ∀ (j_53 : Int) (w54 : World) (k51 : Nat) (_ : Fr), I50 j_53 w54 k51 →
            cnd (decide (j_53 < b_))
              (ixK data__p data__n j_53 1 fun a55 =>
                ∃ x56 : Int, w54.drew.cell? a55 = some (.int .i64 x56) ∧ 
                ixK data__p data__n (IntKind.i64.wrap (j_53 - (1 : Int))) 1 fun a57 =>
                ∃ x58 : Int, w54.drew.cell? a57 = some (.int .i64 x58) ∧ 
                cnd (entB Try.prog cmp_f) (Calls Try.prog cmp_f (#[] ++ #[.int .i64 x56, .int .i64 x58] ++ cmp_v) w54.drew fun e w59 => ∃ r60 : Int, e = .returned (.int .i64 r60) ∧ 
                cnd (!(decide (r60 < (0 : Int))))
                (∃ k3, k3 < k2 ∧ I1 i_19 (IntKind.i64.wrap (j_5 + (1 : Int))) w59 k3)
                (ixK data__p data__n (IntKind.i64.wrap (j_53 - (1 : Int))) 1 fun a61 =>
                  ∃ x62 : Int, w59.drew.cell? a61 = some (.int .i64 x62) ∧ 
                  ixK data__p data__n j_53 1 fun a63 =>
                  ∃ x64 : Int, w59.drew.cell? a63 = some (.int .i64 x64) ∧ 
                  ixK data__p data__n j_53 1 fun a65 =>
                  ∃ w66 : World, StoreAt a65 0 [.int .i64 x62] w59.drew w66 ∧ 
                  ixK data__p data__n (IntKind.i64.wrap (j_53 - (1 : Int))) 1 fun a67 =>
                  ∃ w68 : World, StoreAt a67 0 [.int .i64 x64] w66 w68 ∧ 
                  ∃ k52, k52 < k51 ∧ I50 (IntKind.i64.wrap (j_53 + (1 : Int))) w68 k52)) False)
              (∃ k3, k3 < k2 ∧ I1 i_19 (IntKind.i64.wrap (j_5 + (1 : Int))) w54 k3))
          (∃ k3, k3 < k2 ∧ I1 i_19 (IntKind.i64.wrap (j_5 + (1 : Int))) w49 k3))))
    (K (.bool false) w6)
theorem slices_partialInsertionSortCmpFunc_int.eq (data__p : Option Addr) (data__n : Nat) (data__c : Nat) (a_ : Int) (b_ : Int) (cmp_f : FuncId) (cmp_v : Array Value) (w : World) (K : Value → World → Prop) : wpF Try.prog Try.f109 (.two .leaf (.two .leaf (.two (.two .leaf (.one (.loop [(9, 3), (10, 3)] (.two .leaf (.two (.one (.cut [(9, 3)] (.one (.loop [(9, 3)] .leaf)) (.two .leaf (.two .leaf (.two .leaf (.cut [] (.two .leaf (.two (.two .leaf (.one (.loop [(11, 3)] .leaf))) .leaf)) (.two .leaf (.two (.two .leaf (.one (.loop [(12, 3)] .leaf))) .leaf)))))))) .leaf))))) .leaf))) [.slice data__p data__n data__c, .int .i64 a_, .int .i64 b_, .func (.func cmp_f) #[] cmp_v] w K = slices_partialInsertionSortCmpFunc_int.w data__p data__n data__c a_ b_ cmp_f cmp_v w K := by kernel_rfl
theorem slices_partialInsertionSortCmpFunc_int.ok : fnOk Try.prog Try.f109 4 = true := by kernel_rfl
theorem slices_partialInsertionSortCmpFunc_int.calls {data__p : Option Addr} {data__n : Nat} {data__c : Nat} {a_ : Int} {b_ : Int} {cmp_f : FuncId} {cmp_v : Array Value} {w : World} {R : Ending → World → Prop} (h : slices_partialInsertionSortCmpFunc_int.w data__p data__n data__c a_ b_ cmp_f cmp_v w fun v w' => R (.returned v) w') : Calls Try.prog 109 #[.slice data__p data__n data__c, .int .i64 a_, .int .i64 b_, .func (.func cmp_f) #[] cmp_v] w R :=
  calls_of mixed Try.func109 slices_partialInsertionSortCmpFunc_int.ok rfl (fun K => slices_partialInsertionSortCmpFunc_int.eq data__p data__n data__c a_ b_ cmp_f cmp_v w K) h

/-! ### slices.partitionEqualCmpFunc[int]: function 110 (named slots 112) -/
def slices_partitionEqualCmpFunc_int.w (data__p : Option Addr) (data__n : Nat) (data__c : Nat) (a_ : Int) (b_ : Int) (pivot_ : Int) (cmp_f : FuncId) (cmp_v : Array Value) (w : World) (K : Value → World → Prop) : Prop :=
  ixK data__p data__n pivot_ 1 fun a1 =>
  ∃ x2 : Int, w.drew.cell? a1 = some (.int .i64 x2) ∧ 
  ixK data__p data__n a_ 1 fun a3 =>
  ∃ x4 : Int, w.drew.cell? a3 = some (.int .i64 x4) ∧ 
  ixK data__p data__n a_ 1 fun a5 =>
  ∃ w6 : World, StoreAt a5 0 [.int .i64 x2] w.drew w6 ∧ 
  ixK data__p data__n pivot_ 1 fun a7 =>
  ∃ w8 : World, StoreAt a7 0 [.int .i64 x4] w6 w8 ∧ 
  ∃ I9 : Int → Int → World → Nat → Prop, (∃ k10, I9 (IntKind.i64.wrap (a_ + (1 : Int))) (IntKind.i64.wrap (b_ - (1 : Int))) w8 k10) ∧
  ∀ (i_12 : Int) (j_13 : Int) (w14 : World) (k10 : Nat) (_ : Fr), I9 i_12 j_13 w14 k10 →
  ∃ I15 : Int → World → Nat → Prop, (∃ k16, I15 i_12 w14 k16) ∧
    ∀ (i_18 : Int) (w19 : World) (k16 : Nat) (_ : Fr), I15 i_18 w19 k16 →
    cnd (decide (i_18 ≤ j_13))
      (ixK data__p data__n a_ 1 fun a20 =>
      ∃ x21 : Int, w19.drew.cell? a20 = some (.int .i64 x21) ∧ 
      ixK data__p data__n i_18 1 fun a22 =>
      ∃ x23 : Int, w19.drew.cell? a22 = some (.int .i64 x23) ∧ 
      cnd (entB Try.prog cmp_f) (Calls Try.prog cmp_f (#[] ++ #[.int .i64 x21, .int .i64 x23] ++ cmp_v) w19.drew fun e w24 => ∃ r25 : Int, e = .returned (.int .i64 r25) ∧ 
      cnd (!(decide (r25 < (0 : Int))))
      (∃ k17, k17 < k16 ∧ I15 (IntKind.i64.wrap (i_18 + (1 : Int))) w24 k17)
      (∃ I26 : Int → World → Nat → Prop, (∃ k27, I26 j_13 w24 k27) ∧
        ∀ (j_29 : Int) (w30 : World) (k27 : Nat) (_ : Fr), I26 j_29 w30 k27 →
        cnd (decide (i_18 ≤ j_29))
          (ixK data__p data__n a_ 1 fun a31 =>
          ∃ x32 : Int, w30.drew.cell? a31 = some (.int .i64 x32) ∧ 
          ixK data__p data__n j_29 1 fun a33 =>
          ∃ x34 : Int, w30.drew.cell? a33 = some (.int .i64 x34) ∧ 
          cnd (entB Try.prog cmp_f) (Calls Try.prog cmp_f (#[] ++ #[.int .i64 x32, .int .i64 x34] ++ cmp_v) w30.drew fun e w35 => ∃ r36 : Int, e = .returned (.int .i64 r36) ∧ 
          cnd (decide (r36 < (0 : Int)))
          (∃ k28, k28 < k27 ∧ I26 (IntKind.i64.wrap (j_29 - (1 : Int))) w35 k28)
          (cnd (decide (i_18 > j_29))
            (K (.int .i64 i_18) w35)
            (ixK data__p data__n j_29 1 fun a37 =>
              ∃ x38 : Int, w35.drew.cell? a37 = some (.int .i64 x38) ∧ 
              ixK data__p data__n i_18 1 fun a39 =>
              ∃ x40 : Int, w35.drew.cell? a39 = some (.int .i64 x40) ∧ 
              ixK data__p data__n i_18 1 fun a41 =>
              ∃ w42 : World, StoreAt a41 0 [.int .i64 x38] w35.drew w42 ∧ 
              ixK data__p data__n j_29 1 fun a43 =>
              ∃ w44 : World, StoreAt a43 0 [.int .i64 x40] w42 w44 ∧ 
              ∃ k11, k11 < k10 ∧ I9 (IntKind.i64.wrap (i_18 + (1 : Int))) (IntKind.i64.wrap (j_29 - (1 : Int))) w44 k11))) False)
          (cnd (decide (i_18 > j_29))
          (K (.int .i64 i_18) w30.drew)
          (ixK data__p data__n j_29 1 fun a45 =>
            ∃ x46 : Int, w30.drew.drew.cell? a45 = some (.int .i64 x46) ∧ 
            ixK data__p data__n i_18 1 fun a47 =>
            ∃ x48 : Int, w30.drew.drew.cell? a47 = some (.int .i64 x48) ∧ 
            ixK data__p data__n i_18 1 fun a49 =>
            ∃ w50 : World, StoreAt a49 0 [.int .i64 x46] w30.drew.drew w50 ∧ 
            ixK data__p data__n j_29 1 fun a51 =>
            ∃ w52 : World, StoreAt a51 0 [.int .i64 x48] w50 w52 ∧ 
            ∃ k11, k11 < k10 ∧ I9 (IntKind.i64.wrap (i_18 + (1 : Int))) (IntKind.i64.wrap (j_29 - (1 : Int))) w52 k11)))) False)
      (∃ I53 : Int → World → Nat → Prop, (∃ k54, I53 j_13 w19.drew k54) ∧
      ∀ (j_56 : Int) (w57 : World) (k54 : Nat) (_ : Fr), I53 j_56 w57 k54 →
      cnd (decide (i_18 ≤ j_56))
        (ixK data__p data__n a_ 1 fun a58 =>
        ∃ x59 : Int, w57.drew.cell? a58 = some (.int .i64 x59) ∧ 
        ixK data__p data__n j_56 1 fun a60 =>
        ∃ x61 : Int, w57.drew.cell? a60 = some (.int .i64 x61) ∧ 
        cnd (entB Try.prog cmp_f) (Calls Try.prog cmp_f (#[] ++ #[.int .i64 x59, .int .i64 x61] ++ cmp_v) w57.drew fun e w62 => ∃ r63 : Int, e = .returned (.int .i64 r63) ∧ 
        cnd (decide (r63 < (0 : Int)))
        (∃ k55, k55 < k54 ∧ I53 (IntKind.i64.wrap (j_56 - (1 : Int))) w62 k55)
        (cnd (decide (i_18 > j_56))
          (K (.int .i64 i_18) w62)
          (ixK data__p data__n j_56 1 fun a64 =>
            ∃ x65 : Int, w62.drew.cell? a64 = some (.int .i64 x65) ∧ 
            ixK data__p data__n i_18 1 fun a66 =>
            ∃ x67 : Int, w62.drew.cell? a66 = some (.int .i64 x67) ∧ 
            ixK data__p data__n i_18 1 fun a68 =>
            ∃ w69 : World, StoreAt a68 0 [.int .i64 x65] w62.drew w69 ∧ 
            ixK data__p data__n j_56 1 fun a70 =>
            ∃ w71 : World, StoreAt a70 0 [.int .i64 x67] w69 w71 ∧ 
            ∃ k11, k11 < k10 ∧ I9 (IntKind.i64.wrap (i_18 + (1 : Int))) (IntKind.i64.wrap (j_56 - (1 : Int))) w71 k11))) False)
        (cnd (decide (i_18 > j_56))
        (K (.int .i64 i_18) w57.drew)
        (ixK data__p data__n j_56 1 fun a72 =>
          ∃ x73 : Int, w57.drew.drew.cell? a72 = some (.int .i64 x73) ∧ 
          ixK data__p data__n i_18 1 fun a74 =>
          ∃ x75 : Int, w57.drew.drew.cell? a74 = some (.int .i64 x75) ∧ 
          ixK data__p data__n i_18 1 fun a76 =>
          ∃ w77 : World, StoreAt a76 0 [.int .i64 x73] w57.drew.drew w77 ∧ 
          ixK data__p data__n j_56 1 fun a78 =>
          ∃ w79 : World, StoreAt a78 0 [.int .i64 x75] w77 w79 ∧ 
          ∃ k11, k11 < k10 ∧ I9 (IntKind.i64.wrap (i_18 + (1 : Int))) (IntKind.i64.wrap (j_56 - (1 : Int))) w79 k11)))
theorem slices_partitionEqualCmpFunc_int.eq (data__p : Option Addr) (data__n : Nat) (data__c : Nat) (a_ : Int) (b_ : Int) (pivot_ : Int) (cmp_f : FuncId) (cmp_v : Array Value) (w : World) (K : Value → World → Prop) : wpF Try.prog Try.f110 (.two .leaf (.two .leaf (.two .leaf (.two (.one (.loop [(11, 3), (12, 3)] (.one (.two (.one (.loop [(11, 3)] .leaf)) (.two (.one (.loop [(12, 3)] .leaf)) .leaf))))) .leaf)))) [.slice data__p data__n data__c, .int .i64 a_, .int .i64 b_, .int .i64 pivot_, .func (.func cmp_f) #[] cmp_v] w K = slices_partitionEqualCmpFunc_int.w data__p data__n data__c a_ b_ pivot_ cmp_f cmp_v w K := by kernel_rfl
theorem slices_partitionEqualCmpFunc_int.ok : fnOk Try.prog Try.f110 5 = true := by kernel_rfl
theorem slices_partitionEqualCmpFunc_int.calls {data__p : Option Addr} {data__n : Nat} {data__c : Nat} {a_ : Int} {b_ : Int} {pivot_ : Int} {cmp_f : FuncId} {cmp_v : Array Value} {w : World} {R : Ending → World → Prop} (h : slices_partitionEqualCmpFunc_int.w data__p data__n data__c a_ b_ pivot_ cmp_f cmp_v w fun v w' => R (.returned v) w') : Calls Try.prog 110 #[.slice data__p data__n data__c, .int .i64 a_, .int .i64 b_, .int .i64 pivot_, .func (.func cmp_f) #[] cmp_v] w R :=
  calls_of mixed Try.func110 slices_partitionEqualCmpFunc_int.ok rfl (fun K => slices_partitionEqualCmpFunc_int.eq data__p data__n data__c a_ b_ pivot_ cmp_f cmp_v w K) h

/-! ### slices.partitionCmpFunc[int]: function 111 (named slots 114) cuts [(2, 147), (2, 127)] -/
def slices_partitionCmpFunc_int.w (data__p : Option Addr) (data__n : Nat) (data__c : Nat) (a_ : Int) (b_ : Int) (pivot_ : Int) (cmp_f : FuncId) (cmp_v : Array Value) (w : World) (K : Value → World → Prop) : Prop :=
  ixK data__p data__n pivot_ 1 fun a1 =>
  ∃ x2 : Int, w.drew.cell? a1 = some (.int .i64 x2) ∧ 
  ixK data__p data__n a_ 1 fun a3 =>
  ∃ x4 : Int, w.drew.cell? a3 = some (.int .i64 x4) ∧ 
  ixK data__p data__n a_ 1 fun a5 =>
  ∃ w6 : World, StoreAt a5 0 [.int .i64 x2] w.drew w6 ∧ 
  ixK data__p data__n pivot_ 1 fun a7 =>
  ∃ w8 : World, StoreAt a7 0 [.int .i64 x4] w6 w8 ∧ 
  ∃ J9 : Int → World → Prop, (∃ I10 : Int → World → Nat → Prop, (∃ k11, I10 (IntKind.i64.wrap (a_ + (1 : Int))) w8 k11) ∧
  ∀ (i_13 : Int) (w14 : World) (k11 : Nat) (_ : Fr), I10 i_13 w14 k11 →
  cnd (decide (i_13 ≤ (IntKind.i64.wrap (b_ - (1 : Int)))))
    (ixK data__p data__n i_13 1 fun a15 =>
    ∃ x16 : Int, w14.drew.cell? a15 = some (.int .i64 x16) ∧ 
    ixK data__p data__n a_ 1 fun a17 =>
    ∃ x18 : Int, w14.drew.cell? a17 = some (.int .i64 x18) ∧ 
    cnd (entB Try.prog cmp_f) (Calls Try.prog cmp_f (#[] ++ #[.int .i64 x16, .int .i64 x18] ++ cmp_v) w14.drew fun e w19 => ∃ r20 : Int, e = .returned (.int .i64 r20) ∧ 
    cnd (decide (r20 < (0 : Int)))
    (∃ k12, k12 < k11 ∧ I10 (IntKind.i64.wrap (i_13 + (1 : Int))) w19 k12)
    (J9 i_13 w19)) False)
    (J9 i_13 w14.drew)) ∧
  ∀ (i_21 : Int) (w22 : World) (_ : Fr), J9 i_21 w22 → 
  ∃ J23 : Int → World → Prop, (∃ I24 : Int → World → Nat → Prop, (∃ k25, I24 (IntKind.i64.wrap (b_ - (1 : Int))) w22 k25) ∧
  ∀ (j_27 : Int) (w28 : World) (k25 : Nat) (_ : Fr), I24 j_27 w28 k25 →
  cnd (decide (i_21 ≤ j_27))
    (ixK data__p data__n j_27 1 fun a29 =>
    ∃ x30 : Int, w28.drew.cell? a29 = some (.int .i64 x30) ∧ 
    ixK data__p data__n a_ 1 fun a31 =>
    ∃ x32 : Int, w28.drew.cell? a31 = some (.int .i64 x32) ∧ 
    cnd (entB Try.prog cmp_f) (Calls Try.prog cmp_f (#[] ++ #[.int .i64 x30, .int .i64 x32] ++ cmp_v) w28.drew fun e w33 => ∃ r34 : Int, e = .returned (.int .i64 r34) ∧ 
    cnd (!(decide (r34 < (0 : Int))))
    (∃ k26, k26 < k25 ∧ I24 (IntKind.i64.wrap (j_27 - (1 : Int))) w33 k26)
    (J23 j_27 w33)) False)
    (J23 j_27 w28.drew)) ∧
  ∀ (j_35 : Int) (w36 : World) (_ : Fr), J23 j_35 w36 → 
  cnd (decide (i_21 > j_35))
  (ixK data__p data__n a_ 1 fun a37 =>
    ∃ x38 : Int, w36.drew.cell? a37 = some (.int .i64 x38) ∧ 
    ixK data__p data__n j_35 1 fun a39 =>
    ∃ x40 : Int, w36.drew.cell? a39 = some (.int .i64 x40) ∧ 
    ixK data__p data__n j_35 1 fun a41 =>
    ∃ w42 : World, StoreAt a41 0 [.int .i64 x38] w36.drew w42 ∧ 
    ixK data__p data__n a_ 1 fun a43 =>
    ∃ w44 : World, StoreAt a43 0 [.int .i64 x40] w42 w44 ∧ 
    K (.tuple #[.int .i64 j_35, .bool true]) w44)
  (ixK data__p data__n j_35 1 fun a45 =>
    ∃ x46 : Int, w36.drew.cell? a45 = some (.int .i64 x46) ∧ 
    ixK data__p data__n i_21 1 fun a47 =>
    ∃ x48 : Int, w36.drew.cell? a47 = some (.int .i64 x48) ∧ 
    ixK data__p data__n i_21 1 fun a49 =>
    ∃ w50 : World, StoreAt a49 0 [.int .i64 x46] w36.drew w50 ∧ 
    ixK data__p data__n j_35 1 fun a51 =>
    ∃ w52 : World, StoreAt a51 0 [.int .i64 x48] w50 w52 ∧ 
    ∃ I53 : Int → Int → World → Nat → Prop, (∃ k54, I53 (IntKind.i64.wrap (i_21 + (1 : Int))) (IntKind.i64.wrap (j_35 - (1 : Int))) w52 k54) ∧
    ∀ (i_56 : Int) (j_57 : Int) (w58 : World) (k54 : Nat) (_ : Fr), I53 i_56 j_57 w58 k54 →
    ∃ I59 : Int → World → Nat → Prop, (∃ k60, I59 i_56 w58 k60) ∧
      ∀ (i_62 : Int) (w63 : World) (k60 : Nat) (_ : Fr), I59 i_62 w63 k60 →
      cnd (decide (i_62 ≤ j_57))
        (ixK data__p data__n i_62 1 fun a64 =>
        ∃ x65 : Int, w63.drew.cell? a64 = some (.int .i64 x65) ∧ 
        ixK data__p data__n a_ 1 fun a66 =>
        ∃ x67 : Int, w63.drew.cell? a66 = some (.int .i64 x67) ∧ 
        cnd (entB Try.prog cmp_f) (Calls Try.prog cmp_f (#[] ++ #[.int .i64 x65, .int .i64 x67] ++ cmp_v) w63.drew fun e w68 => ∃ r69 : Int, e = .returned (.int .i64 r69) ∧ 
        cnd (decide (r69 < (0 : Int)))
        (∃ k61, k61 < k60 ∧ I59 (IntKind.i64.wrap (i_62 + (1 : Int))) w68 k61)
        (∃ I70 : Int → World → Nat → Prop, (∃ k71, I70 j_57 w68 k71) ∧
          ∀ (j_73 : Int) (w74 : World) (k71 : Nat) (_ : Fr), I70 j_73 w74 k71 →
          cnd (decide (i_62 ≤ j_73))
            (ixK data__p data__n j_73 1 fun a75 =>
            ∃ x76 : Int, w74.drew.cell? a75 = some (.int .i64 x76) ∧ 
            ixK data__p data__n a_ 1 fun a77 =>
            ∃ x78 : Int, w74.drew.cell? a77 = some (.int .i64 x78) ∧ 
            cnd (entB Try.prog cmp_f) (Calls Try.prog cmp_f (#[] ++ #[.int .i64 x76, .int .i64 x78] ++ cmp_v) w74.drew fun e w79 => ∃ r80 : Int, e = .returned (.int .i64 r80) ∧ 
            cnd (!(decide (r80 < (0 : Int))))
            (∃ k72, k72 < k71 ∧ I70 (IntKind.i64.wrap (j_73 - (1 : Int))) w79 k72)
            (cnd (decide (i_62 > j_73))
              (ixK data__p data__n a_ 1 fun a81 =>
                ∃ x82 : Int, w79.drew.cell? a81 = some (.int .i64 x82) ∧ 
                ixK data__p data__n j_73 1 fun a83 =>
                ∃ x84 : Int, w79.drew.cell? a83 = some (.int .i64 x84) ∧ 
                ixK data__p data__n j_73 1 fun a85 =>
                ∃ w86 : World, StoreAt a85 0 [.int .i64 x82] w79.drew w86 ∧ 
                ixK data__p data__n a_ 1 fun a87 =>
                ∃ w88 : World, StoreAt a87 0 [.int .i64 x84] w86 w88 ∧ 
                K (.tuple #[.int .i64 j_73, .bool false]) w88)
              (ixK data__p data__n j_73 1 fun a89 =>
                ∃ x90 : Int, w79.drew.cell? a89 = some (.int .i64 x90) ∧ 
                ixK data__p data__n i_62 1 fun a91 =>
                ∃ x92 : Int, w79.drew.cell? a91 = some (.int .i64 x92) ∧ 
                ixK data__p data__n i_62 1 fun a93 =>
                ∃ w94 : World, StoreAt a93 0 [.int .i64 x90] w79.drew w94 ∧ 
                ixK data__p data__n j_73 1 fun a95 =>
                ∃ w96 : World, StoreAt a95 0 [.int .i64 x92] w94 w96 ∧ 
                ∃ k55, k55 < k54 ∧ I53 (IntKind.i64.wrap (i_62 + (1 : Int))) (IntKind.i64.wrap (j_73 - (1 : Int))) w96 k55))) False)
            (cnd (decide (i_62 > j_73))
            (ixK data__p data__n a_ 1 fun a97 =>
              ∃ x98 : Int, w74.drew.drew.cell? a97 = some (.int .i64 x98) ∧ 
              ixK data__p data__n j_73 1 fun a99 =>
              ∃ x100 : Int, w74.drew.drew.cell? a99 = some (.int .i64 x100) ∧ 
              ixK data__p data__n j_73 1 fun a101 =>
              ∃ w102 : World, StoreAt a101 0 [.int .i64 x98] w74.drew.drew w102 ∧ 
              ixK data__p data__n a_ 1 fun a103 =>
              ∃ w104 : World, StoreAt a103 0 [.int .i64 x100] w102 w104 ∧ 
              K (.tuple #[.int .i64 j_73, .bool false]) w104)
            (ixK data__p data__n j_73 1 fun a105 =>
              ∃ x106 : Int, w74.drew.drew.cell? a105 = some (.int .i64 x106) ∧ 
              ixK data__p data__n i_62 1 fun a107 =>
              ∃ x108 : Int, w74.drew.drew.cell? a107 = some (.int .i64 x108) ∧ 
              ixK data__p data__n i_62 1 fun a109 =>
              ∃ w110 : World, StoreAt a109 0 [.int .i64 x106] w74.drew.drew w110 ∧ 
              ixK data__p data__n j_73 1 fun a111 =>
              ∃ w112 : World, StoreAt a111 0 [.int .i64 x108] w110 w112 ∧ 
              ∃ k55, k55 < k54 ∧ I53 (IntKind.i64.wrap (i_62 + (1 : Int))) (IntKind.i64.wrap (j_73 - (1 : Int))) w112 k55)))) False)
        (∃ I113 : Int → World → Nat → Prop, (∃ k114, I113 j_57 w63.drew k114) ∧
        ∀ (j_116 : Int) (w117 : World) (k114 : Nat) (_ : Fr), I113 j_116 w117 k114 →
        cnd (decide (i_62 ≤ j_116))
          (ixK data__p data__n j_116 1 fun a118 =>
          ∃ x119 : Int, w117.drew.cell? a118 = some (.int .i64 x119) ∧ 
          ixK data__p data__n a_ 1 fun a120 =>
          ∃ x121 : Int, w117.drew.cell? a120 = some (.int .i64 x121) ∧ 
          cnd (entB Try.prog cmp_f) (Calls Try.prog cmp_f (#[] ++ #[.int .i64 x119, .int .i64 x121] ++ cmp_v) w117.drew fun e w122 => ∃ r123 : Int, e = .returned (.int .i64 r123) ∧ 
          cnd (!(decide (r123 < (0 : Int))))
          (∃ k115, k115 < k114 ∧ I113 (IntKind.i64.wrap (j_116 - (1 : Int))) w122 k115)
          (cnd (decide (i_62 > j_116))
            (ixK data__p data__n a_ 1 fun a124 =>
              ∃ x125 : Int, w122.drew.cell? a124 = some (.int .i64 x125) ∧ 
              ixK data__p data__n j_116 1 fun a126 =>
              ∃ x127 : Int, w122.drew.cell? a126 = some (.int .i64 x127) ∧ 
              ixK data__p data__n j_116 1 fun a128 =>
              ∃ w129 : World, StoreAt a128 0 [.int .i64 x125] w122.drew w129 ∧ 
              ixK data__p data__n a_ 1 fun a130 =>
              ∃ w131 : World, StoreAt a130 0 [.int .i64 x127] w129 w131 ∧ 
              K (.tuple #[.int .i64 j_116, .bool false]) w131)
            (ixK data__p data__n j_116 1 fun a132 =>
              ∃ x133 : Int, w122.drew.cell? a132 = some (.int .i64 x133) ∧ 
              ixK data__p data__n i_62 1 fun a134 =>
              ∃ x135 : Int, w122.drew.cell? a134 = some (.int .i64 x135) ∧ 
              ixK data__p data__n i_62 1 fun a136 =>
              ∃ w137 : World, StoreAt a136 0 [.int .i64 x133] w122.drew w137 ∧ 
              ixK data__p data__n j_116 1 fun a138 =>
              ∃ w139 : World, StoreAt a138 0 [.int .i64 x135] w137 w139 ∧ 
              ∃ k55, k55 < k54 ∧ I53 (IntKind.i64.wrap (i_62 + (1 : Int))) (IntKind.i64.wrap (j_116 - (1 : Int))) w139 k55))) False)
          (cnd (decide (i_62 > j_116))
          (ixK data__p data__n a_ 1 fun a140 =>
            ∃ x141 : Int, w117.drew.drew.cell? a140 = some (.int .i64 x141) ∧ 
            ixK data__p data__n j_116 1 fun a142 =>
            ∃ x143 : Int, w117.drew.drew.cell? a142 = some (.int .i64 x143) ∧ 
            ixK data__p data__n j_116 1 fun a144 =>
            ∃ w145 : World, StoreAt a144 0 [.int .i64 x141] w117.drew.drew w145 ∧ 
            ixK data__p data__n a_ 1 fun a146 =>
            ∃ w147 : World, StoreAt a146 0 [.int .i64 x143] w145 w147 ∧ 
            K (.tuple #[.int .i64 j_116, .bool false]) w147)
          (ixK data__p data__n j_116 1 fun a148 =>
            ∃ x149 : Int, w117.drew.drew.cell? a148 = some (.int .i64 x149) ∧ 
            ixK data__p data__n i_62 1 fun a150 =>
            ∃ x151 : Int, w117.drew.drew.cell? a150 = some (.int .i64 x151) ∧ 
            ixK data__p data__n i_62 1 fun a152 =>
            ∃ w153 : World, StoreAt a152 0 [.int .i64 x149] w117.drew.drew w153 ∧ 
            ixK data__p data__n j_116 1 fun a154 =>
            ∃ w155 : World, StoreAt a154 0 [.int .i64 x151] w153 w155 ∧ 
            ∃ k55, k55 < k54 ∧ I53 (IntKind.i64.wrap (i_62 + (1 : Int))) (IntKind.i64.wrap (j_116 - (1 : Int))) w155 k55))))
theorem slices_partitionCmpFunc_int.eq (data__p : Option Addr) (data__n : Nat) (data__c : Nat) (a_ : Int) (b_ : Int) (pivot_ : Int) (cmp_f : FuncId) (cmp_v : Array Value) (w : World) (K : Value → World → Prop) : wpF Try.prog Try.f111 (.two .leaf (.two .leaf (.two .leaf (.cut [(12, 3)] (.one (.loop [(12, 3)] .leaf)) (.cut [(13, 3)] (.one (.loop [(13, 3)] .leaf)) (.two .leaf (.two .leaf (.two .leaf (.two .leaf (.two (.one (.loop [(12, 3), (13, 3)] (.one (.two (.one (.loop [(12, 3)] .leaf)) (.two (.one (.loop [(13, 3)] .leaf)) .leaf))))) .leaf)))))))))) [.slice data__p data__n data__c, .int .i64 a_, .int .i64 b_, .int .i64 pivot_, .func (.func cmp_f) #[] cmp_v] w K = slices_partitionCmpFunc_int.w data__p data__n data__c a_ b_ pivot_ cmp_f cmp_v w K := by kernel_rfl
theorem slices_partitionCmpFunc_int.ok : fnOk Try.prog Try.f111 5 = true := by kernel_rfl
theorem slices_partitionCmpFunc_int.calls {data__p : Option Addr} {data__n : Nat} {data__c : Nat} {a_ : Int} {b_ : Int} {pivot_ : Int} {cmp_f : FuncId} {cmp_v : Array Value} {w : World} {R : Ending → World → Prop} (h : slices_partitionCmpFunc_int.w data__p data__n data__c a_ b_ pivot_ cmp_f cmp_v w fun v w' => R (.returned v) w') : Calls Try.prog 111 #[.slice data__p data__n data__c, .int .i64 a_, .int .i64 b_, .int .i64 pivot_, .func (.func cmp_f) #[] cmp_v] w R :=
  calls_of mixed Try.func111 slices_partitionCmpFunc_int.ok rfl (fun K => slices_partitionCmpFunc_int.eq data__p data__n data__c a_ b_ pivot_ cmp_f cmp_v w K) h

/-! ### math/bits.Len32: function 112 (named slots 3) -/
def bits_Len32.w (x0_ : Int) (w : World) (K : Value → World → Prop) : Prop :=
  cnd (decide (x0_ ≥ (65536 : Int)))
  (0 ≤ (16 : Int) ∧ cnd (decide ((x0_.fdiv (2 ^ (min (16 : Int).toNat (IntKind.bits .u32)))) ≥ (256 : Int)))
    (0 ≤ (8 : Int) ∧ ∃ b1, 0 ≤ (IntKind.u8.wrap ((x0_.fdiv (2 ^ (min (16 : Int).toNat (IntKind.bits .u32)))).fdiv (2 ^ (min (8 : Int).toNat (IntKind.bits .u32))))) ∧ strtab0[(IntKind.u8.wrap ((x0_.fdiv (2 ^ (min (16 : Int).toNat (IntKind.bits .u32)))).fdiv (2 ^ (min (8 : Int).toNat (IntKind.bits .u32))))).toNat]? = some b1 ∧ 
      K (.int .i64 (IntKind.i64.wrap ((IntKind.i64.wrap ((16 : Int) + (8 : Int))) + (IntKind.i64.wrap (b1.toNat : Int))))) w)
    (∃ b2, 0 ≤ (IntKind.u8.wrap (x0_.fdiv (2 ^ (min (16 : Int).toNat (IntKind.bits .u32))))) ∧ strtab0[(IntKind.u8.wrap (x0_.fdiv (2 ^ (min (16 : Int).toNat (IntKind.bits .u32))))).toNat]? = some b2 ∧ 
      K (.int .i64 (IntKind.i64.wrap ((16 : Int) + (IntKind.i64.wrap (b2.toNat : Int))))) w))
  (cnd (decide (x0_ ≥ (256 : Int)))
    (0 ≤ (8 : Int) ∧ ∃ b3, 0 ≤ (IntKind.u8.wrap (x0_.fdiv (2 ^ (min (8 : Int).toNat (IntKind.bits .u32))))) ∧ strtab0[(IntKind.u8.wrap (x0_.fdiv (2 ^ (min (8 : Int).toNat (IntKind.bits .u32))))).toNat]? = some b3 ∧ 
      K (.int .i64 (IntKind.i64.wrap ((IntKind.i64.wrap ((0 : Int) + (8 : Int))) + (IntKind.i64.wrap (b3.toNat : Int))))) w)
    (∃ b4, 0 ≤ (IntKind.u8.wrap x0_) ∧ strtab0[(IntKind.u8.wrap x0_).toNat]? = some b4 ∧ 
      K (.int .i64 (IntKind.i64.wrap ((0 : Int) + (IntKind.i64.wrap (b4.toNat : Int))))) w))
theorem bits_Len32.eq (x0_ : Int) (w : World) (K : Value → World → Prop) : wpF Try.prog Try.f112 .leaf [.int .u32 x0_] w K = bits_Len32.w x0_ w K := by kernel_rfl
theorem bits_Len32.ok : fnOk Try.prog Try.f112 1 = true := by kernel_rfl
theorem bits_Len32.calls {x0_ : Int} {w : World} {R : Ending → World → Prop} (h : bits_Len32.w x0_ w fun v w' => R (.returned v) w') : Calls Try.prog 112 #[.int .u32 x0_] w R :=
  calls_of mixed Try.func112 bits_Len32.ok rfl (fun K => bits_Len32.eq x0_ w K) h

/-! ### math/bits.Len64: function 113 (named slots 3) -/
def bits_Len64.w (x0_ : Int) (w : World) (K : Value → World → Prop) : Prop :=
  cnd (decide (x0_ ≥ (4294967296 : Int)))
  (0 ≤ (32 : Int) ∧ cnd (decide ((x0_.fdiv (2 ^ (min (32 : Int).toNat (IntKind.bits .u64)))) ≥ (65536 : Int)))
    (0 ≤ (16 : Int) ∧ cnd (decide (((x0_.fdiv (2 ^ (min (32 : Int).toNat (IntKind.bits .u64)))).fdiv (2 ^ (min (16 : Int).toNat (IntKind.bits .u64)))) ≥ (256 : Int)))
      (0 ≤ (8 : Int) ∧ ∃ b1, 0 ≤ (IntKind.u8.wrap (((x0_.fdiv (2 ^ (min (32 : Int).toNat (IntKind.bits .u64)))).fdiv (2 ^ (min (16 : Int).toNat (IntKind.bits .u64)))).fdiv (2 ^ (min (8 : Int).toNat (IntKind.bits .u64))))) ∧ strtab0[(IntKind.u8.wrap (((x0_.fdiv (2 ^ (min (32 : Int).toNat (IntKind.bits .u64)))).fdiv (2 ^ (min (16 : Int).toNat (IntKind.bits .u64)))).fdiv (2 ^ (min (8 : Int).toNat (IntKind.bits .u64))))).toNat]? = some b1 ∧ 
        K (.int .i64 (IntKind.i64.wrap ((IntKind.i64.wrap ((IntKind.i64.wrap ((32 : Int) + (16 : Int))) + (8 : Int))) + (IntKind.i64.wrap (b1.toNat : Int))))) w)
      (∃ b2, 0 ≤ (IntKind.u8.wrap ((x0_.fdiv (2 ^ (min (32 : Int).toNat (IntKind.bits .u64)))).fdiv (2 ^ (min (16 : Int).toNat (IntKind.bits .u64))))) ∧ strtab0[(IntKind.u8.wrap ((x0_.fdiv (2 ^ (min (32 : Int).toNat (IntKind.bits .u64)))).fdiv (2 ^ (min (16 : Int).toNat (IntKind.bits .u64))))).toNat]? = some b2 ∧ 
        K (.int .i64 (IntKind.i64.wrap ((IntKind.i64.wrap ((32 : Int) + (16 : Int))) + (IntKind.i64.wrap (b2.toNat : Int))))) w))
    (cnd (decide ((x0_.fdiv (2 ^ (min (32 : Int).toNat (IntKind.bits .u64)))) ≥ (256 : Int)))
      (0 ≤ (8 : Int) ∧ ∃ b3, 0 ≤ (IntKind.u8.wrap ((x0_.fdiv (2 ^ (min (32 : Int).toNat (IntKind.bits .u64)))).fdiv (2 ^ (min (8 : Int).toNat (IntKind.bits .u64))))) ∧ strtab0[(IntKind.u8.wrap ((x0_.fdiv (2 ^ (min (32 : Int).toNat (IntKind.bits .u64)))).fdiv (2 ^ (min (8 : Int).toNat (IntKind.bits .u64))))).toNat]? = some b3 ∧ 
        K (.int .i64 (IntKind.i64.wrap ((IntKind.i64.wrap ((32 : Int) + (8 : Int))) + (IntKind.i64.wrap (b3.toNat : Int))))) w)
      (∃ b4, 0 ≤ (IntKind.u8.wrap (x0_.fdiv (2 ^ (min (32 : Int).toNat (IntKind.bits .u64))))) ∧ strtab0[(IntKind.u8.wrap (x0_.fdiv (2 ^ (min (32 : Int).toNat (IntKind.bits .u64))))).toNat]? = some b4 ∧ 
        K (.int .i64 (IntKind.i64.wrap ((32 : Int) + (IntKind.i64.wrap (b4.toNat : Int))))) w)))
  (cnd (decide (x0_ ≥ (65536 : Int)))
    (0 ≤ (16 : Int) ∧ cnd (decide ((x0_.fdiv (2 ^ (min (16 : Int).toNat (IntKind.bits .u64)))) ≥ (256 : Int)))
      (0 ≤ (8 : Int) ∧ ∃ b5, 0 ≤ (IntKind.u8.wrap ((x0_.fdiv (2 ^ (min (16 : Int).toNat (IntKind.bits .u64)))).fdiv (2 ^ (min (8 : Int).toNat (IntKind.bits .u64))))) ∧ strtab0[(IntKind.u8.wrap ((x0_.fdiv (2 ^ (min (16 : Int).toNat (IntKind.bits .u64)))).fdiv (2 ^ (min (8 : Int).toNat (IntKind.bits .u64))))).toNat]? = some b5 ∧ 
        K (.int .i64 (IntKind.i64.wrap ((IntKind.i64.wrap ((IntKind.i64.wrap ((0 : Int) + (16 : Int))) + (8 : Int))) + (IntKind.i64.wrap (b5.toNat : Int))))) w)
      (∃ b6, 0 ≤ (IntKind.u8.wrap (x0_.fdiv (2 ^ (min (16 : Int).toNat (IntKind.bits .u64))))) ∧ strtab0[(IntKind.u8.wrap (x0_.fdiv (2 ^ (min (16 : Int).toNat (IntKind.bits .u64))))).toNat]? = some b6 ∧ 
        K (.int .i64 (IntKind.i64.wrap ((IntKind.i64.wrap ((0 : Int) + (16 : Int))) + (IntKind.i64.wrap (b6.toNat : Int))))) w))
    (cnd (decide (x0_ ≥ (256 : Int)))
      (0 ≤ (8 : Int) ∧ ∃ b7, 0 ≤ (IntKind.u8.wrap (x0_.fdiv (2 ^ (min (8 : Int).toNat (IntKind.bits .u64))))) ∧ strtab0[(IntKind.u8.wrap (x0_.fdiv (2 ^ (min (8 : Int).toNat (IntKind.bits .u64))))).toNat]? = some b7 ∧ 
        K (.int .i64 (IntKind.i64.wrap ((IntKind.i64.wrap ((0 : Int) + (8 : Int))) + (IntKind.i64.wrap (b7.toNat : Int))))) w)
      (∃ b8, 0 ≤ (IntKind.u8.wrap x0_) ∧ strtab0[(IntKind.u8.wrap x0_).toNat]? = some b8 ∧ 
        K (.int .i64 (IntKind.i64.wrap ((0 : Int) + (IntKind.i64.wrap (b8.toNat : Int))))) w)))
theorem bits_Len64.eq (x0_ : Int) (w : World) (K : Value → World → Prop) : wpF Try.prog Try.f113 .leaf [.int .u64 x0_] w K = bits_Len64.w x0_ w K := by kernel_rfl
theorem bits_Len64.ok : fnOk Try.prog Try.f113 1 = true := by kernel_rfl
theorem bits_Len64.calls {x0_ : Int} {w : World} {R : Ending → World → Prop} (h : bits_Len64.w x0_ w fun v w' => R (.returned v) w') : Calls Try.prog 113 #[.int .u64 x0_] w R :=
  calls_of mixed Try.func113 bits_Len64.ok rfl (fun K => bits_Len64.eq x0_ w K) h

/-! ### slices.siftDownCmpFunc[int]: function 114 (named slots 101) cuts [(3, 42)] -/
def slices_siftDownCmpFunc_int.w (data__p : Option Addr) (data__n : Nat) (data__c : Nat) (lo_ : Int) (hi_ : Int) (first_ : Int) (cmp_f : FuncId) (cmp_v : Array Value) (w : World) (K : Value → World → Prop) : Prop :=
  ∃ I1 : Int → World → Nat → Prop, (∃ k2, I1 lo_ w k2) ∧
  ∀ (root_4 : Int) (w5 : World) (k2 : Nat) (_ : Fr), I1 root_4 w5 k2 →
  cnd (decide ((IntKind.i64.wrap ((IntKind.i64.wrap ((2 : Int) * root_4)) + (1 : Int))) ≥ hi_))
    (K (.tuple #[]) w5)
    (∃ J6 : Int → World → Prop, (cnd (decide ((IntKind.i64.wrap ((IntKind.i64.wrap ((IntKind.i64.wrap ((2 : Int) * root_4)) + (1 : Int))) + (1 : Int))) < hi_))
      (ixK data__p data__n (IntKind.i64.wrap (first_ + (IntKind.i64.wrap ((IntKind.i64.wrap ((2 : Int) * root_4)) + (1 : Int))))) 1 fun a7 =>
      ∃ x8 : Int, w5.drew.cell? a7 = some (.int .i64 x8) ∧ 
      ixK data__p data__n (IntKind.i64.wrap ((IntKind.i64.wrap (first_ + (IntKind.i64.wrap ((IntKind.i64.wrap ((2 : Int) * root_4)) + (1 : Int))))) + (1 : Int))) 1 fun a9 =>
      ∃ x10 : Int, w5.drew.cell? a9 = some (.int .i64 x10) ∧ 
      cnd (entB Try.prog cmp_f) (Calls Try.prog cmp_f (#[] ++ #[.int .i64 x8, .int .i64 x10] ++ cmp_v) w5.drew fun e w11 => ∃ r12 : Int, e = .returned (.int .i64 r12) ∧ 
      cnd (decide (r12 < (0 : Int)))
      (J6 (IntKind.i64.wrap ((IntKind.i64.wrap ((IntKind.i64.wrap ((2 : Int) * root_4)) + (1 : Int))) + (1 : Int))) w11)
      (J6 (IntKind.i64.wrap ((IntKind.i64.wrap ((2 : Int) * root_4)) + (1 : Int))) w11)) False)
      (J6 (IntKind.i64.wrap ((IntKind.i64.wrap ((2 : Int) * root_4)) + (1 : Int))) w5.drew)) ∧
      ∀ (child_13 : Int) (w14 : World) (_ : Fr), J6 child_13 w14 → 
      ixK data__p data__n (IntKind.i64.wrap (first_ + root_4)) 1 fun a15 =>
      ∃ x16 : Int, w14.drew.cell? a15 = some (.int .i64 x16) ∧ 
      ixK data__p data__n (IntKind.i64.wrap (first_ + child_13)) 1 fun a17 =>
      ∃ x18 : Int, w14.drew.cell? a17 = some (.int .i64 x18) ∧ 
      cnd (entB Try.prog cmp_f) (Calls Try.prog cmp_f (#[] ++ #[.int .i64 x16, .int .i64 x18] ++ cmp_v) w14.drew fun e w19 => ∃ r20 : Int, e = .returned (.int .i64 r20) ∧ 
      cnd (!(decide (r20 < (0 : Int))))
      (K (.tuple #[]) w19)
      (ixK data__p data__n (IntKind.i64.wrap (first_ + child_13)) 1 fun a21 =>
        ∃ x22 : Int, w19.drew.cell? a21 = some (.int .i64 x22) ∧ 
        ixK data__p data__n (IntKind.i64.wrap (first_ + root_4)) 1 fun a23 =>
        ∃ x24 : Int, w19.drew.cell? a23 = some (.int .i64 x24) ∧ 
        ixK data__p data__n (IntKind.i64.wrap (first_ + root_4)) 1 fun a25 =>
        ∃ w26 : World, StoreAt a25 0 [.int .i64 x22] w19.drew w26 ∧ 
        ixK data__p data__n (IntKind.i64.wrap (first_ + child_13)) 1 fun a27 =>
        ∃ w28 : World, StoreAt a27 0 [.int .i64 x24] w26 w28 ∧ 
        ∃ k3, k3 < k2 ∧ I1 child_13 w28 k3)) False)
theorem slices_siftDownCmpFunc_int.eq (data__p : Option Addr) (data__n : Nat) (data__c : Nat) (lo_ : Int) (hi_ : Int) (first_ : Int) (cmp_f : FuncId) (cmp_v : Array Value) (w : World) (K : Value → World → Prop) : wpF Try.prog Try.f114 (.two .leaf (.one (.loop [(10, 3)] (.one (.two .leaf (.two .leaf (.cut [(11, 3)] .leaf .leaf))))))) [.slice data__p data__n data__c, .int .i64 lo_, .int .i64 hi_, .int .i64 first_, .func (.func cmp_f) #[] cmp_v] w K = slices_siftDownCmpFunc_int.w data__p data__n data__c lo_ hi_ first_ cmp_f cmp_v w K := by kernel_rfl
theorem slices_siftDownCmpFunc_int.ok : fnOk Try.prog Try.f114 5 = true := by kernel_rfl
theorem slices_siftDownCmpFunc_int.calls {data__p : Option Addr} {data__n : Nat} {data__c : Nat} {lo_ : Int} {hi_ : Int} {first_ : Int} {cmp_f : FuncId} {cmp_v : Array Value} {w : World} {R : Ending → World → Prop} (h : slices_siftDownCmpFunc_int.w data__p data__n data__c lo_ hi_ first_ cmp_f cmp_v w fun v w' => R (.returned v) w') : Calls Try.prog 114 #[.slice data__p data__n data__c, .int .i64 lo_, .int .i64 hi_, .int .i64 first_, .func (.func cmp_f) #[] cmp_v] w R :=
  calls_of mixed Try.func114 slices_siftDownCmpFunc_int.ok rfl (fun K => slices_siftDownCmpFunc_int.eq data__p data__n data__c lo_ hi_ first_ cmp_f cmp_v w K) h

/-! ### slices.nextPowerOfTwo: function 115 (named slots 3) -/
def slices_nextPowerOfTwo.w (length_ : Int) (w : World) (K : Value → World → Prop) : Prop :=
  Calls Try.prog 99 #[.int .u64 (IntKind.u64.wrap length_)] w fun e w1 => ∃ r2 : Int, e = .returned (.int .i64 r2) ∧ 
  0 ≤ r2 ∧ K (.int .u64 (IntKind.u64.wrap ((1 : Int) * 2 ^ (min r2.toNat (IntKind.bits .u64))))) w1
theorem slices_nextPowerOfTwo.eq (length_ : Int) (w : World) (K : Value → World → Prop) : wpF Try.prog Try.f115 .leaf [.int .i64 length_] w K = slices_nextPowerOfTwo.w length_ w K := by kernel_rfl
theorem slices_nextPowerOfTwo.ok : fnOk Try.prog Try.f115 1 = true := by kernel_rfl
theorem slices_nextPowerOfTwo.calls {length_ : Int} {w : World} {R : Ending → World → Prop} (h : slices_nextPowerOfTwo.w length_ w fun v w' => R (.returned v) w') : Calls Try.prog 115 #[.int .i64 length_] w R :=
  calls_of mixed Try.func115 slices_nextPowerOfTwo.ok rfl (fun K => slices_nextPowerOfTwo.eq length_ w K) h

/-! ### (*slices.xorshift).Next: function 116 (named slots 3) -/
def slices_xorshift_Next.w (r_ : Option Addr) (w : World) (K : Value → World → Prop) : Prop :=
  ∃ a1 : Addr, r_ = some a1 ∧ ∃ x2 : Int, w.drew.cell? a1 = some (.int .u64 x2) ∧ 
  ∃ a3 : Addr, r_ = some a3 ∧ ∃ x4 : Int, w.drew.cell? a3 = some (.int .u64 x4) ∧ 
  0 ≤ (13 : Int) ∧ ∃ a5 : Addr, r_ = some a5 ∧ ∃ w6 : World, StoreAt a5 0 [.int .u64 (IntKind.u64.wrap ((BitVec.ofInt (IntKind.bits .u64) x2 ^^^ BitVec.ofInt (IntKind.bits .u64) (IntKind.u64.wrap (x4 * 2 ^ (min (13 : Int).toNat (IntKind.bits .u64))))).toNat))] w.drew w6 ∧ 
  ∃ a7 : Addr, r_ = some a7 ∧ ∃ x8 : Int, w6.drew.cell? a7 = some (.int .u64 x8) ∧ 
  ∃ a9 : Addr, r_ = some a9 ∧ ∃ x10 : Int, w6.drew.cell? a9 = some (.int .u64 x10) ∧ 
  0 ≤ (7 : Int) ∧ ∃ a11 : Addr, r_ = some a11 ∧ ∃ w12 : World, StoreAt a11 0 [.int .u64 (IntKind.u64.wrap ((BitVec.ofInt (IntKind.bits .u64) x8 ^^^ BitVec.ofInt (IntKind.bits .u64) (x10.fdiv (2 ^ (min (7 : Int).toNat (IntKind.bits .u64))))).toNat))] w6.drew w12 ∧ 
  ∃ a13 : Addr, r_ = some a13 ∧ ∃ x14 : Int, w12.drew.cell? a13 = some (.int .u64 x14) ∧ 
  ∃ a15 : Addr, r_ = some a15 ∧ ∃ x16 : Int, w12.drew.cell? a15 = some (.int .u64 x16) ∧ 
  0 ≤ (17 : Int) ∧ ∃ a17 : Addr, r_ = some a17 ∧ ∃ w18 : World, StoreAt a17 0 [.int .u64 (IntKind.u64.wrap ((BitVec.ofInt (IntKind.bits .u64) x14 ^^^ BitVec.ofInt (IntKind.bits .u64) (IntKind.u64.wrap (x16 * 2 ^ (min (17 : Int).toNat (IntKind.bits .u64))))).toNat))] w12.drew w18 ∧ 
  ∃ a19 : Addr, r_ = some a19 ∧ ∃ x20 : Int, w18.cell? a19 = some (.int .u64 x20) ∧ 
  K (.int .u64 x20) w18
theorem slices_xorshift_Next.eq (r_ : Option Addr) (w : World) (K : Value → World → Prop) : wpF Try.prog Try.f116 .leaf [.pointer r_] w K = slices_xorshift_Next.w r_ w K := by kernel_rfl
theorem slices_xorshift_Next.ok : fnOk Try.prog Try.f116 1 = true := by kernel_rfl
theorem slices_xorshift_Next.calls {r_ : Option Addr} {w : World} {R : Ending → World → Prop} (h : slices_xorshift_Next.w r_ w fun v w' => R (.returned v) w') : Calls Try.prog 116 #[.pointer r_] w R :=
  calls_of mixed Try.func116 slices_xorshift_Next.ok rfl (fun K => slices_xorshift_Next.eq r_ w K) h

/-! ### slices.medianAdjacentCmpFunc[int]: function 117 (named slots 121) -/
def slices_medianAdjacentCmpFunc_int.w (data__p : Option Addr) (data__n : Nat) (data__c : Nat) (a_ : Int) (swaps_ : Option Addr) (cmp_f : FuncId) (cmp_v : Array Value) (w : World) (K : Value → World → Prop) : Prop :=
  Calls Try.prog 118 #[.slice data__p data__n data__c, .int .i64 (IntKind.i64.wrap (a_ - (1 : Int))), .int .i64 a_, .int .i64 (IntKind.i64.wrap (a_ + (1 : Int))), .pointer swaps_, .func (.func cmp_f) #[] cmp_v] w fun e w1 => ∃ r2 : Int, e = .returned (.int .i64 r2) ∧ 
  K (.int .i64 r2) w1
theorem slices_medianAdjacentCmpFunc_int.eq (data__p : Option Addr) (data__n : Nat) (data__c : Nat) (a_ : Int) (swaps_ : Option Addr) (cmp_f : FuncId) (cmp_v : Array Value) (w : World) (K : Value → World → Prop) : wpF Try.prog Try.f117 .leaf [.slice data__p data__n data__c, .int .i64 a_, .pointer swaps_, .func (.func cmp_f) #[] cmp_v] w K = slices_medianAdjacentCmpFunc_int.w data__p data__n data__c a_ swaps_ cmp_f cmp_v w K := by kernel_rfl
theorem slices_medianAdjacentCmpFunc_int.ok : fnOk Try.prog Try.f117 4 = true := by kernel_rfl
theorem slices_medianAdjacentCmpFunc_int.calls {data__p : Option Addr} {data__n : Nat} {data__c : Nat} {a_ : Int} {swaps_ : Option Addr} {cmp_f : FuncId} {cmp_v : Array Value} {w : World} {R : Ending → World → Prop} (h : slices_medianAdjacentCmpFunc_int.w data__p data__n data__c a_ swaps_ cmp_f cmp_v w fun v w' => R (.returned v) w') : Calls Try.prog 117 #[.slice data__p data__n data__c, .int .i64 a_, .pointer swaps_, .func (.func cmp_f) #[] cmp_v] w R :=
  calls_of mixed Try.func117 slices_medianAdjacentCmpFunc_int.ok rfl (fun K => slices_medianAdjacentCmpFunc_int.eq data__p data__n data__c a_ swaps_ cmp_f cmp_v w K) h

/-! ### slices.medianCmpFunc[int]: function 118 (named slots 125) -/
def slices_medianCmpFunc_int.w (data__p : Option Addr) (data__n : Nat) (data__c : Nat) (a_ : Int) (b_ : Int) (c_ : Int) (swaps_ : Option Addr) (cmp_f : FuncId) (cmp_v : Array Value) (w : World) (K : Value → World → Prop) : Prop :=
  Calls Try.prog 119 #[.slice data__p data__n data__c, .int .i64 a_, .int .i64 b_, .pointer swaps_, .func (.func cmp_f) #[] cmp_v] w fun e w1 => ∃ r2 : Int, ∃ r3 : Int, e = .returned (.tuple #[.int .i64 r2, .int .i64 r3]) ∧ 
  Calls Try.prog 119 #[.slice data__p data__n data__c, .int .i64 r3, .int .i64 c_, .pointer swaps_, .func (.func cmp_f) #[] cmp_v] w1 fun e w4 => ∃ r5 : Int, ∃ r6 : Int, e = .returned (.tuple #[.int .i64 r5, .int .i64 r6]) ∧ 
  Calls Try.prog 119 #[.slice data__p data__n data__c, .int .i64 r2, .int .i64 r5, .pointer swaps_, .func (.func cmp_f) #[] cmp_v] w4 fun e w7 => ∃ r8 : Int, ∃ r9 : Int, e = .returned (.tuple #[.int .i64 r8, .int .i64 r9]) ∧ 
  K (.int .i64 r9) w7
theorem slices_medianCmpFunc_int.eq (data__p : Option Addr) (data__n : Nat) (data__c : Nat) (a_ : Int) (b_ : Int) (c_ : Int) (swaps_ : Option Addr) (cmp_f : FuncId) (cmp_v : Array Value) (w : World) (K : Value → World → Prop) : wpF Try.prog Try.f118 .leaf [.slice data__p data__n data__c, .int .i64 a_, .int .i64 b_, .int .i64 c_, .pointer swaps_, .func (.func cmp_f) #[] cmp_v] w K = slices_medianCmpFunc_int.w data__p data__n data__c a_ b_ c_ swaps_ cmp_f cmp_v w K := by kernel_rfl
theorem slices_medianCmpFunc_int.ok : fnOk Try.prog Try.f118 6 = true := by kernel_rfl
theorem slices_medianCmpFunc_int.calls {data__p : Option Addr} {data__n : Nat} {data__c : Nat} {a_ : Int} {b_ : Int} {c_ : Int} {swaps_ : Option Addr} {cmp_f : FuncId} {cmp_v : Array Value} {w : World} {R : Ending → World → Prop} (h : slices_medianCmpFunc_int.w data__p data__n data__c a_ b_ c_ swaps_ cmp_f cmp_v w fun v w' => R (.returned v) w') : Calls Try.prog 118 #[.slice data__p data__n data__c, .int .i64 a_, .int .i64 b_, .int .i64 c_, .pointer swaps_, .func (.func cmp_f) #[] cmp_v] w R :=
  calls_of mixed Try.func118 slices_medianCmpFunc_int.ok rfl (fun K => slices_medianCmpFunc_int.eq data__p data__n data__c a_ b_ c_ swaps_ cmp_f cmp_v w K) h

/-! ### slices.order2CmpFunc[int]: function 119 (named slots 127) -/
def slices_order2CmpFunc_int.w (data__p : Option Addr) (data__n : Nat) (data__c : Nat) (a_ : Int) (b_ : Int) (swaps_ : Option Addr) (cmp_f : FuncId) (cmp_v : Array Value) (w : World) (K : Value → World → Prop) : Prop :=
  ixK data__p data__n b_ 1 fun a1 =>
  ∃ x2 : Int, w.drew.cell? a1 = some (.int .i64 x2) ∧ 
  ixK data__p data__n a_ 1 fun a3 =>
  ∃ x4 : Int, w.drew.cell? a3 = some (.int .i64 x4) ∧ 
  cnd (entB Try.prog cmp_f) (Calls Try.prog cmp_f (#[] ++ #[.int .i64 x2, .int .i64 x4] ++ cmp_v) w.drew fun e w5 => ∃ r6 : Int, e = .returned (.int .i64 r6) ∧ 
  cnd (decide (r6 < (0 : Int)))
  (∃ a7 : Addr, swaps_ = some a7 ∧ ∃ x8 : Int, w5.cell? a7 = some (.int .i64 x8) ∧ 
    ∃ a9 : Addr, swaps_ = some a9 ∧ ∃ w10 : World, StoreAt a9 0 [.int .i64 (IntKind.i64.wrap (x8 + (1 : Int)))] w5 w10 ∧ 
    K (.tuple #[.int .i64 b_, .int .i64 a_]) w10)
  (K (.tuple #[.int .i64 a_, .int .i64 b_]) w5)) False
theorem slices_order2CmpFunc_int.eq (data__p : Option Addr) (data__n : Nat) (data__c : Nat) (a_ : Int) (b_ : Int) (swaps_ : Option Addr) (cmp_f : FuncId) (cmp_v : Array Value) (w : World) (K : Value → World → Prop) : wpF Try.prog Try.f119 .leaf [.slice data__p data__n data__c, .int .i64 a_, .int .i64 b_, .pointer swaps_, .func (.func cmp_f) #[] cmp_v] w K = slices_order2CmpFunc_int.w data__p data__n data__c a_ b_ swaps_ cmp_f cmp_v w K := by kernel_rfl
theorem slices_order2CmpFunc_int.ok : fnOk Try.prog Try.f119 5 = true := by kernel_rfl
theorem slices_order2CmpFunc_int.calls {data__p : Option Addr} {data__n : Nat} {data__c : Nat} {a_ : Int} {b_ : Int} {swaps_ : Option Addr} {cmp_f : FuncId} {cmp_v : Array Value} {w : World} {R : Ending → World → Prop} (h : slices_order2CmpFunc_int.w data__p data__n data__c a_ b_ swaps_ cmp_f cmp_v w fun v w' => R (.returned v) w') : Calls Try.prog 119 #[.slice data__p data__n data__c, .int .i64 a_, .int .i64 b_, .pointer swaps_, .func (.func cmp_f) #[] cmp_v] w R :=
  calls_of mixed Try.func119 slices_order2CmpFunc_int.ok rfl (fun K => slices_order2CmpFunc_int.eq data__p data__n data__c a_ b_ swaps_ cmp_f cmp_v w K) h

end Go.Proofs.Ytlpmapeojecenaa.W
