/- The functions that the statements reach, printed as what the frame asks of them, each checked by the kernel against the loaded text. -/
import Derived.Test.YtambabpklfeaoaaProg
import Derived.Test.YtambabpklfeaoaaFwSound
namespace Go.Proofs.Ytambabpklfeaoaa.W
open Go Go.Fw Go.Proofs
set_option linter.unusedVariables false

theorem mixed : Try.prog.follows .mixedOrders = true := by kernel_rfl

abbrev fathomlaw19_RankSorts.id : FuncId := 3
abbrev fathomlaw19_RankCloses.id : FuncId := 4
abbrev fathomlaw18_TseitinBuilds.id : FuncId := 5
abbrev fathomlaw19_RankReaches.id : FuncId := 6
abbrev fathomlaw18_TseitinMeans.id : FuncId := 7
abbrev fathomlaw18_TseitinReads.id : FuncId := 8
abbrev fathomlaw19_RankRefuses.id : FuncId := 9
abbrev fathomlaw19_RankOrders.id : FuncId := 10
abbrev fathomlaw19_awake.id : FuncId := 11
abbrev rank_Sorted.id : FuncId := 12
abbrev fathomref19_Square.id : FuncId := 13
abbrev fathomref19_Order.id : FuncId := 14
abbrev rank_Closure.id : FuncId := 15
abbrev fathomlaw19_filled.id : FuncId := 16
abbrev fathomref19_Closed.id : FuncId := 17
abbrev fathomref19_Reaches.id : FuncId := 18
abbrev fathomlaw18_light.id : FuncId := 19
abbrev fathomlaw18_awake.id : FuncId := 20
abbrev tseitin_Build.id : FuncId := 21
abbrev fathomref18_May.id : FuncId := 22
abbrev fathomref01_Same.id : FuncId := 23
abbrev fathomref18_Build.id : FuncId := 24
abbrev fathomref01_Ints.id : FuncId := 25
abbrev tseitin_Code.id : FuncId := 26
abbrev aig_New.id : FuncId := 27
abbrev rank_Reach.id : FuncId := 28
abbrev aig_Aig_Len.id : FuncId := 29
abbrev rank_Edges.id : FuncId := 30
abbrev fathomref18_Asked.id : FuncId := 31
abbrev aig_Aig_Nodes.id : FuncId := 32
abbrev fathomref01_Model.id : FuncId := 33
abbrev tseitin_Ins.id : FuncId := 34
abbrev fathomref01_Value.id : FuncId := 35
abbrev fathomref15_True.id : FuncId := 36
abbrev fathomref01_Holds.id : FuncId := 37
abbrev fathomref15_May.id : FuncId := 38
abbrev tseitin_Asked.id : FuncId := 39
abbrev fathomref18_Ins.id : FuncId := 40
abbrev aig_Aig_In.id : FuncId := 41
abbrev rank_Order.id : FuncId := 42
abbrev rank_Places.id : FuncId := 43
abbrev fathomref01_Has.id : FuncId := 44
abbrev aig_Eval.id : FuncId := 45
abbrev vec_Number.id : FuncId := 46
abbrev rank_squared.id : FuncId := 47
abbrev slices_Clone_bool_bool.id : FuncId := 48
abbrev tseitin_may.id : FuncId := 49
abbrev tseitin_cone.id : FuncId := 50
abbrev tseitin_and.id : FuncId := 51
abbrev tseitin_builder_add.id : FuncId := 52
abbrev lit_CheckCnf.id : FuncId := 53
abbrev fathomref15_Is.id : FuncId := 54
abbrev fathomref01_Lists.id : FuncId := 55
abbrev fathomref18_Hangs.id : FuncId := 56
abbrev fathomref15_Not.id : FuncId := 57
abbrev fathomref18_clause.id : FuncId := 58
abbrev rank_room.id : FuncId := 59
abbrev rank_square.id : FuncId := 60
abbrev rank_is.id : FuncId := 61
abbrev slices_Clone_fathom_api_Gate_fathom_api_Gate.id : FuncId := 62
abbrev aig_Check.id : FuncId := 63
abbrev lit_Value.id : FuncId := 64
abbrev fathomref01_Lit.id : FuncId := 65
abbrev fathomref01_Var.id : FuncId := 66
abbrev fathomref01_Clause.id : FuncId := 67
abbrev slices_ContainsFunc_int_int.id : FuncId := 68
abbrev tseitin_Asked_1.id : FuncId := 69
abbrev aig_Value.id : FuncId := 70
abbrev aig_Aig_add.id : FuncId := 71
abbrev aig_input.id : FuncId := 72
abbrev card_Count.id : FuncId := 73
abbrev slices_ContainsFunc_bool_bool.id : FuncId := 74
abbrev rank_squared_1.id : FuncId := 75
abbrev tseitin_may_1.id : FuncId := 76
abbrev lit_Check.id : FuncId := 77
abbrev lit_CheckCnf_1.id : FuncId := 78
abbrev lit_amount.id : FuncId := 79
abbrev aig_Aig_Is.id : FuncId := 80
abbrev rank_is_1.id : FuncId := 81
abbrev lit_is.id : FuncId := 82
abbrev slices_IndexFunc_int_int.id : FuncId := 83
abbrev card_may.id : FuncId := 84
abbrev card_count.id : FuncId := 85
abbrev slices_IndexFunc_bool_bool.id : FuncId := 86
abbrev lit_Check_1.id : FuncId := 87
abbrev card_may_1.id : FuncId := 88
abbrev card_Enough.id : FuncId := 89
abbrev vec_Add.id : FuncId := 90
abbrev card_wide.id : FuncId := 91
abbrev bits_Len.id : FuncId := 92
abbrev vec_pair.id : FuncId := 93
abbrev vec_sum.id : FuncId := 94
abbrev vec_whole.id : FuncId := 95
abbrev bits_Len32.id : FuncId := 96
abbrev bits_Len64.id : FuncId := 97
abbrev vec_Check.id : FuncId := 98
abbrev aig_Aig_Xor.id : FuncId := 99
abbrev aig_Aig_Or.id : FuncId := 100
abbrev aig_Aig_And.id : FuncId := 101
abbrev slices_Contains_int_int.id : FuncId := 102
abbrev vec_Check_1.id : FuncId := 103
abbrev aig_not.id : FuncId := 104
abbrev aig_Aig_plain.id : FuncId := 105
abbrev aig_Aig_turned.id : FuncId := 106
abbrev slices_Index_int_int.id : FuncId := 107
abbrev aig_Aig_kids.id : FuncId := 108
abbrev ty_int64 : TypeId := 2
theorem ty_int64.und : Try.prog.underlying 2 = some (.int .i64) := by kernel_rfl
theorem ty_int64.info : (Try.prog.info? 2).map (fun i => (i.zero, i.size, i.bytes)) = some (some (.int .i64 0), 1, 8) := by kernel_rfl
abbrev ty_int : TypeId := 3
theorem ty_int.und : Try.prog.underlying 3 = some (.int .i64) := by kernel_rfl
theorem ty_int.info : (Try.prog.info? 3).map (fun i => (i.zero, i.size, i.bytes)) = some (some (.int .i64 0), 1, 8) := by kernel_rfl
abbrev ty_bool : TypeId := 4
theorem ty_bool.und : Try.prog.underlying 4 = some .bool := by kernel_rfl
theorem ty_bool.info : (Try.prog.info? 4).map (fun i => (i.zero, i.size, i.bytes)) = some (some (.bool false), 1, 1) := by kernel_rfl
abbrev ty_uint8 : TypeId := 5
theorem ty_uint8.und : Try.prog.underlying 5 = some (.int .u8) := by kernel_rfl
theorem ty_uint8.info : (Try.prog.info? 5).map (fun i => (i.zero, i.size, i.bytes)) = some (some (.int .u8 0), 1, 1) := by kernel_rfl
abbrev ty_abi_BoundsErrorCode : TypeId := 6
theorem ty_abi_BoundsErrorCode.und : Try.prog.underlying 6 = some (.int .u8) := by kernel_rfl
theorem ty_abi_BoundsErrorCode.info : (Try.prog.info? 6).map (fun i => (i.zero, i.size, i.bytes)) = some (some (.int .u8 0), 1, 1) := by kernel_rfl
abbrev ty_runtime_boundsError : TypeId := 8
theorem ty_runtime_boundsError.info : (Try.prog.info? 8).map (fun i => (i.zero, i.size, i.bytes)) = some (some (.agg #[.int .i64 0, .int .i64 0, .bool false, .int .u8 0]), 4, 24) := by kernel_rfl
abbrev ty_uintptr : TypeId := 12
theorem ty_uintptr.und : Try.prog.underlying 12 = some (.int .u64) := by kernel_rfl
theorem ty_uintptr.info : (Try.prog.info? 12).map (fun i => (i.zero, i.size, i.bytes)) = some (some (.int .u64 0), 1, 8) := by kernel_rfl
abbrev ty_runtime_errorAddressString : TypeId := 14
theorem ty_runtime_errorAddressString.info : (Try.prog.info? 14).map (fun i => (i.zero, i.size, i.bytes)) = some (some (.agg #[.string (ByteArray.mk #[]), .int .u64 0]), 2, 24) := by kernel_rfl
abbrev ty_p_runtime_TypeAssertionError : TypeId := 15
theorem ty_p_runtime_TypeAssertionError.info : (Try.prog.info? 15).map (fun i => (i.zero, i.size, i.bytes)) = some (some (.pointer none), 1, 8) := by kernel_rfl
abbrev ty_p_runtime_PanicNilError : TypeId := 16
theorem ty_p_runtime_PanicNilError.info : (Try.prog.info? 16).map (fun i => (i.zero, i.size, i.bytes)) = some (some (.pointer none), 1, 8) := by kernel_rfl
abbrev ty_p_abi_Type : TypeId := 17
theorem ty_p_abi_Type.info : (Try.prog.info? 17).map (fun i => (i.zero, i.size, i.bytes)) = some (some (.pointer none), 1, 8) := by kernel_rfl
abbrev ty_maps_unhashableTypeError : TypeId := 19
theorem ty_maps_unhashableTypeError.info : (Try.prog.info? 19).map (fun i => (i.zero, i.size, i.bytes)) = some (some (.agg #[.pointer none]), 1, 8) := by kernel_rfl
abbrev ty_int32 : TypeId := 21
theorem ty_int32.und : Try.prog.underlying 21 = some (.int .i32) := by kernel_rfl
theorem ty_int32.info : (Try.prog.info? 21).map (fun i => (i.zero, i.size, i.bytes)) = some (some (.int .i32 0), 1, 4) := by kernel_rfl
abbrev ty_sl_sl_bool : TypeId := 22
theorem ty_sl_sl_bool.und : Try.prog.underlying 22 = some (.slice 28) := by kernel_rfl
theorem ty_sl_sl_bool.info : (Try.prog.info? 22).map (fun i => (i.zero, i.size, i.bytes)) = some (some (.slice none 0 0), 1, 24) := by kernel_rfl
abbrev ty_sl_int : TypeId := 24
theorem ty_sl_int.und : Try.prog.underlying 24 = some (.slice 3) := by kernel_rfl
theorem ty_sl_int.info : (Try.prog.info? 24).map (fun i => (i.zero, i.size, i.bytes)) = some (some (.slice none 0 0), 1, 24) := by kernel_rfl
abbrev ty_sl_bool : TypeId := 28
theorem ty_sl_bool.und : Try.prog.underlying 28 = some (.slice 4) := by kernel_rfl
theorem ty_sl_bool.info : (Try.prog.info? 28).map (fun i => (i.zero, i.size, i.bytes)) = some (some (.slice none 0 0), 1, 24) := by kernel_rfl
abbrev ty_sl_api_Gate : TypeId := 33
theorem ty_sl_api_Gate.und : Try.prog.underlying 33 = some (.slice 76) := by kernel_rfl
theorem ty_sl_api_Gate.info : (Try.prog.info? 33).map (fun i => (i.zero, i.size, i.bytes)) = some (some (.slice none 0 0), 1, 24) := by kernel_rfl
abbrev ty_sl_sl_int : TypeId := 34
theorem ty_sl_sl_int.und : Try.prog.underlying 34 = some (.slice 24) := by kernel_rfl
theorem ty_sl_sl_int.info : (Try.prog.info? 34).map (fun i => (i.zero, i.size, i.bytes)) = some (some (.slice none 0 0), 1, 24) := by kernel_rfl
abbrev ty_api_Cnf : TypeId := 37
theorem ty_api_Cnf.info : (Try.prog.info? 37).map (fun i => (i.zero, i.size, i.bytes)) = some (some (.agg #[.int .i64 0, .slice none 0 0]), 2, 32) := by kernel_rfl
abbrev ty_api_Coded : TypeId := 39
theorem ty_api_Coded.info : (Try.prog.info? 39).map (fun i => (i.zero, i.size, i.bytes)) = some (some (.agg #[.int .i64 0, .slice none 0 0, .slice none 0 0]), 3, 56) := by kernel_rfl
abbrev ty_api_Errno : TypeId := 40
theorem ty_api_Errno.und : Try.prog.underlying 40 = some (.int .i64) := by kernel_rfl
theorem ty_api_Errno.info : (Try.prog.info? 40).map (fun i => (i.zero, i.size, i.bytes)) = some (some (.int .i64 0), 1, 8) := by kernel_rfl
abbrev ty_p_aig_Aig : TypeId := 47
theorem ty_p_aig_Aig.info : (Try.prog.info? 47).map (fun i => (i.zero, i.size, i.bytes)) = some (some (.pointer none), 1, 8) := by kernel_rfl
abbrev ty_uint16 : TypeId := 56
theorem ty_uint16.und : Try.prog.underlying 56 = some (.int .u16) := by kernel_rfl
theorem ty_uint16.info : (Try.prog.info? 56).map (fun i => (i.zero, i.size, i.bytes)) = some (some (.int .u16 0), 1, 2) := by kernel_rfl
abbrev ty_fathomlaw18_Point : TypeId := 64
theorem ty_fathomlaw18_Point.info : (Try.prog.info? 64).map (fun i => (i.zero, i.size, i.bytes)) = some (some (.agg #[.slice none 0 0, .slice none 0 0, .slice none 0 0]), 3, 72) := by kernel_rfl
abbrev ty_api_Gate : TypeId := 76
theorem ty_api_Gate.info : (Try.prog.info? 76).map (fun i => (i.zero, i.size, i.bytes)) = some (some (.agg #[.int .i64 0, .int .i64 0]), 2, 16) := by kernel_rfl
abbrev ty_p_tseitin_builder : TypeId := 78
theorem ty_p_tseitin_builder.info : (Try.prog.info? 78).map (fun i => (i.zero, i.size, i.bytes)) = some (some (.pointer none), 1, 8) := by kernel_rfl
abbrev ty_tseitin_builder : TypeId := 80
theorem ty_tseitin_builder.info : (Try.prog.info? 80).map (fun i => (i.zero, i.size, i.bytes)) = some (some (.agg #[.int .i64 0, .slice none 0 0, .slice none 0 0]), 3, 56) := by kernel_rfl
abbrev ty_map_api_Gate_int : TypeId := 89
theorem ty_map_api_Gate_int.und : Try.prog.underlying 89 = some (.map 76 3) := by kernel_rfl
theorem ty_map_api_Gate_int.info : (Try.prog.info? 89).map (fun i => (i.zero, i.size, i.bytes)) = some (some (.map none), 1, 8) := by kernel_rfl
abbrev ty_aig_Aig : TypeId := 91
theorem ty_aig_Aig.info : (Try.prog.info? 91).map (fun i => (i.zero, i.size, i.bytes)) = some (some (.agg #[.slice none 0 0, .map none]), 2, 32) := by kernel_rfl
abbrev ty_uint : TypeId := 113
theorem ty_uint.und : Try.prog.underlying 113 = some (.int .u64) := by kernel_rfl
theorem ty_uint.info : (Try.prog.info? 113).map (fun i => (i.zero, i.size, i.bytes)) = some (some (.int .u64 0), 1, 8) := by kernel_rfl
abbrev ty_uint32 : TypeId := 119
theorem ty_uint32.und : Try.prog.underlying 119 = some (.int .u32) := by kernel_rfl
theorem ty_uint32.info : (Try.prog.info? 119).map (fun i => (i.zero, i.size, i.bytes)) = some (some (.int .u32 0), 1, 4) := by kernel_rfl
abbrev ty_uint64 : TypeId := 121
theorem ty_uint64.und : Try.prog.underlying 121 = some (.int .u64) := by kernel_rfl
theorem ty_uint64.info : (Try.prog.info? 121).map (fun i => (i.zero, i.size, i.bytes)) = some (some (.int .u64 0), 1, 8) := by kernel_rfl
abbrev ty_runtime_TypeAssertionError : TypeId := 130
theorem ty_runtime_TypeAssertionError.info : (Try.prog.info? 130).map (fun i => (i.zero, i.size, i.bytes)) = some (some (.agg #[.pointer none, .pointer none, .pointer none, .string (ByteArray.mk #[])]), 4, 40) := by kernel_rfl
abbrev ty_runtime_PanicNilError : TypeId := 133
theorem ty_runtime_PanicNilError.info : (Try.prog.info? 133).map (fun i => (i.zero, i.size, i.bytes)) = some (some (.agg #[]), 0, 0) := by kernel_rfl
abbrev ty_abi_TFlag : TypeId := 134
theorem ty_abi_TFlag.und : Try.prog.underlying 134 = some (.int .u8) := by kernel_rfl
theorem ty_abi_TFlag.info : (Try.prog.info? 134).map (fun i => (i.zero, i.size, i.bytes)) = some (some (.int .u8 0), 1, 1) := by kernel_rfl
abbrev ty_abi_Kind : TypeId := 135
theorem ty_abi_Kind.und : Try.prog.underlying 135 = some (.int .u8) := by kernel_rfl
theorem ty_abi_Kind.info : (Try.prog.info? 135).map (fun i => (i.zero, i.size, i.bytes)) = some (some (.int .u8 0), 1, 1) := by kernel_rfl
abbrev ty_p_uint8 : TypeId := 137
theorem ty_p_uint8.info : (Try.prog.info? 137).map (fun i => (i.zero, i.size, i.bytes)) = some (some (.pointer none), 1, 8) := by kernel_rfl
abbrev ty_abi_NameOff : TypeId := 138
theorem ty_abi_NameOff.und : Try.prog.underlying 138 = some (.int .i32) := by kernel_rfl
theorem ty_abi_NameOff.info : (Try.prog.info? 138).map (fun i => (i.zero, i.size, i.bytes)) = some (some (.int .i32 0), 1, 4) := by kernel_rfl
abbrev ty_abi_TypeOff : TypeId := 139
theorem ty_abi_TypeOff.und : Try.prog.underlying 139 = some (.int .i32) := by kernel_rfl
theorem ty_abi_TypeOff.info : (Try.prog.info? 139).map (fun i => (i.zero, i.size, i.bytes)) = some (some (.int .i32 0), 1, 4) := by kernel_rfl
abbrev ty_abi_Type : TypeId := 141
theorem ty_abi_Type.info : (Try.prog.info? 141).map (fun i => (i.zero, i.size, i.bytes)) = some (some (.agg #[.int .u64 0, .int .u64 0, .int .u32 0, .int .u8 0, .int .u8 0, .int .u8 0, .int .u8 0, .nilFunc, .pointer none, .int .i32 0, .int .i32 0]), 11, 48) := by kernel_rfl
def strtab0 : ByteArray := (ByteArray.mk #[0, 1, 2, 2, 3, 3, 3, 3, 4, 4, 4, 4, 4, 4, 4, 4, 5, 5, 5, 5, 5, 5, 5, 5, 5, 5, 5, 5, 5, 5, 5, 5, 6, 6, 6, 6, 6, 6, 6, 6, 6, 6, 6, 6, 6, 6, 6, 6, 6, 6, 6, 6, 6, 6, 6, 6, 6, 6, 6, 6, 6, 6, 6, 6, 7, 7, 7, 7, 7, 7, 7, 7, 7, 7, 7, 7, 7, 7, 7, 7, 7, 7, 7, 7, 7, 7, 7, 7, 7, 7, 7, 7, 7, 7, 7, 7, 7, 7, 7, 7, 7, 7, 7, 7, 7, 7, 7, 7, 7, 7, 7, 7, 7, 7, 7, 7, 7, 7, 7, 7, 7, 7, 7, 7, 7, 7, 7, 7, 8, 8, 8, 8, 8, 8, 8, 8, 8, 8, 8, 8, 8, 8, 8, 8, 8, 8, 8, 8, 8, 8, 8, 8, 8, 8, 8, 8, 8, 8, 8, 8, 8, 8, 8, 8, 8, 8, 8, 8, 8, 8, 8, 8, 8, 8, 8, 8, 8, 8, 8, 8, 8, 8, 8, 8, 8, 8, 8, 8, 8, 8, 8, 8, 8, 8, 8, 8, 8, 8, 8, 8, 8, 8, 8, 8, 8, 8, 8, 8, 8, 8, 8, 8, 8, 8, 8, 8, 8, 8, 8, 8, 8, 8, 8, 8, 8, 8, 8, 8, 8, 8, 8, 8, 8, 8, 8, 8, 8, 8, 8, 8, 8, 8, 8, 8, 8, 8, 8, 8, 8, 8, 8, 8, 8, 8, 8, 8])

/-! ### fathom/fathomlaw19.RankSorts: function 3 (named slots 7) -/
def fathomlaw19_RankSorts.w (ahead__p : Option Addr) (ahead__n : Nat) (ahead__c : Nat) (w : World) (K : Value → World → Prop) : Prop :=
  cnd (decide ((ahead__n : Int) > (50 : Int)))
  (Calls Try.prog 11 #[] w fun e w1 => ∃ r2 : Bool, e = .returned (.bool r2) ∧ 
    K (.bool r2) w1)
  (Calls Try.prog 12 #[.slice ahead__p ahead__n ahead__c] w fun e w3 => ∃ r4_p : Option Addr, ∃ r4_n : Nat, ∃ r4_c : Nat, ∃ r5 : Bool, e = .returned (.tuple #[.slice r4_p r4_n r4_c, .bool r5]) ∧ 
    Calls Try.prog 13 #[.slice ahead__p ahead__n ahead__c] w3 fun e w6 => ∃ r7 : Bool, e = .returned (.bool r7) ∧ 
    cnd (!r7)
    (cnd (!r5)
    (cnd ((r4_n : Int) == (0 : Int))
    (Calls Try.prog 11 #[] w6 fun e w8 => ∃ r9 : Bool, e = .returned (.bool r9) ∧ 
    K (.bool r9) w8)
    (K (.bool false) w6))
    (K (.bool false) w6))
    (Calls Try.prog 14 #[.slice ahead__p ahead__n ahead__c] w6 fun e w10 => ∃ r11 : Bool, e = .returned (.bool r11) ∧ 
    cnd (!r11)
    (cnd (!r5)
      (cnd ((r4_n : Int) == (0 : Int))
      (Calls Try.prog 11 #[] w10 fun e w12 => ∃ r13 : Bool, e = .returned (.bool r13) ∧ 
      K (.bool r13) w12)
      (K (.bool false) w10))
      (K (.bool false) w10))
    (cnd (!r5)
      (K (.bool false) w10)
      (cnd ((r4_n : Int) != (ahead__n : Int))
      (K (.bool false) w10)
      (∃ I14 : Int → World → Nat → Prop, (∃ k15, I14 0 w10 k15) ∧
        ∀ (i_17 : Int) (w18 : World) (k15 : Nat) (_ : Fr), I14 i_17 w18 k15 →
        cnd (decide (i_17 < (r4_n : Int)))
          (∃ I19 : Int → World → Nat → Prop, (∃ k20, I19 0 w18 k20) ∧
            ∀ (k_22 : Int) (w23 : World) (k20 : Nat) (_ : Fr), I19 k_22 w23 k20 →
            cnd (decide (k_22 < i_17))
              (ixK r4_p r4_n i_17 1 fun a24 =>
                ∃ x25 : Int, w23.drew.cell? a24 = some (.int .i64 x25) ∧ 
                ixK r4_p r4_n k_22 1 fun a26 =>
                ∃ x27 : Int, w23.drew.cell? a26 = some (.int .i64 x27) ∧ 
                cnd (x25 == x27)
                (K (.bool false) w23.drew)
                (ixK r4_p r4_n k_22 1 fun a28 =>
                ∃ x29 : Int, w23.drew.cell? a28 = some (.int .i64 x29) ∧ 
                ixK ahead__p ahead__n x29 1 fun a30 =>
                ∃ x31_p : Option Addr, ∃ x31_n : Nat, ∃ x31_c : Nat, w23.drew.cell? a30 = some (.slice x31_p x31_n x31_c) ∧ 
                ixK r4_p r4_n i_17 1 fun a32 =>
                ∃ x33 : Int, w23.drew.cell? a32 = some (.int .i64 x33) ∧ 
                ixK x31_p x31_n x33 1 fun a34 =>
                ∃ x35 : Bool, w23.drew.cell? a34 = some (.bool x35) ∧ 
                cnd (!x35)
                (K (.bool false) w23.drew)
                (∃ k21, k21 < k20 ∧ I19 (IntKind.i64.wrap (k_22 + (1 : Int))) w23.drew k21)))
              (∃ k16, k16 < k15 ∧ I14 (IntKind.i64.wrap (i_17 + (1 : Int))) w23 k16))
          (Calls Try.prog 11 #[] w18 fun e w36 => ∃ r37 : Bool, e = .returned (.bool r37) ∧ 
            K (.bool r37) w36))))))
theorem fathomlaw19_RankSorts.eq (ahead__p : Option Addr) (ahead__n : Nat) (ahead__c : Nat) (w : World) (K : Value → World → Prop) : wpF Try.prog Try.f3 (.two .leaf (.two .leaf (.two .leaf (.two .leaf (.two .leaf (.two (.two .leaf (.one (.loop [(5, 3)] (.two .leaf (.two (.one (.two .leaf (.one (.loop [(6, 3)] .leaf)))) .leaf))))) .leaf)))))) [.slice ahead__p ahead__n ahead__c] w K = fathomlaw19_RankSorts.w ahead__p ahead__n ahead__c w K := by kernel_rfl
theorem fathomlaw19_RankSorts.ok : fnOk Try.prog Try.f3 1 = true := by kernel_rfl
theorem fathomlaw19_RankSorts.calls {ahead__p : Option Addr} {ahead__n : Nat} {ahead__c : Nat} {w : World} {R : Ending → World → Prop} (h : fathomlaw19_RankSorts.w ahead__p ahead__n ahead__c w fun v w' => R (.returned v) w') : Calls Try.prog 3 #[.slice ahead__p ahead__n ahead__c] w R :=
  calls_of mixed Try.func3 fathomlaw19_RankSorts.ok rfl (fun K => fathomlaw19_RankSorts.eq ahead__p ahead__n ahead__c w K) h

/-! ### fathom/fathomlaw19.RankCloses: function 4 (named slots 13) -/
def fathomlaw19_RankCloses.w (edges__p : Option Addr) (edges__n : Nat) (edges__c : Nat) (other__p : Option Addr) (other__n : Nat) (other__c : Nat) (w : World) (K : Value → World → Prop) : Prop :=
  cnd (decide ((edges__n : Int) > (50 : Int)))
  (Calls Try.prog 11 #[] w fun e w1 => ∃ r2 : Bool, e = .returned (.bool r2) ∧ 
    K (.bool r2) w1)
  (Calls Try.prog 15 #[.slice edges__p edges__n edges__c] w fun e w3 => ∃ r4_p : Option Addr, ∃ r4_n : Nat, ∃ r4_c : Nat, e = .returned (.slice r4_p r4_n r4_c) ∧ 
    Calls Try.prog 13 #[.slice edges__p edges__n edges__c] w3 fun e w5 => ∃ r6 : Bool, e = .returned (.bool r6) ∧ 
    cnd (!r6)
    (cnd ((r4_n : Int) == (0 : Int))
      (Calls Try.prog 11 #[] w5 fun e w7 => ∃ r8 : Bool, e = .returned (.bool r8) ∧ 
      K (.bool r8) w7)
      (K (.bool false) w5))
    (cnd ((r4_n : Int) != (edges__n : Int))
      (K (.bool false) w5)
      (cnd (decide ((edges__n : Int) > (6 : Int)))
        (Calls Try.prog 11 #[] w5 fun e w9 => ∃ r10 : Bool, e = .returned (.bool r10) ∧ 
          K (.bool r10) w9)
        (Calls Try.prog 16 #[.int .i64 (edges__n : Int), .slice other__p other__n other__c] w5 fun e w11 => ∃ r12_p : Option Addr, ∃ r12_n : Nat, ∃ r12_c : Nat, e = .returned (.slice r12_p r12_n r12_c) ∧ 
          Calls Try.prog 17 #[.slice r12_p r12_n r12_c] w11 fun e w13 => ∃ r14 : Bool, e = .returned (.bool r14) ∧ 
          Calls Try.prog 13 #[.slice r4_p r4_n r4_c] w13 fun e w15 => ∃ r16 : Bool, e = .returned (.bool r16) ∧ 
          cnd (!r16)
          (K (.bool false) w15)
          (∃ I17 : Bool → Int → World → Nat → Prop, (∃ k18, I17 r14 0 w15 k18) ∧
            ∀ (has_20 : Bool) (i_21 : Int) (w22 : World) (k18 : Nat) (_ : Fr), I17 has_20 i_21 w22 k18 →
            cnd (decide (i_21 < (edges__n : Int)))
              (∃ I23 : Bool → Int → World → Nat → Prop, (∃ k24, I23 has_20 0 w22 k24) ∧
                ∀ (has_26 : Bool) (j_27 : Int) (w28 : World) (k24 : Nat) (_ : Fr), I23 has_26 j_27 w28 k24 →
                cnd (decide (j_27 < (edges__n : Int)))
                  (ixK r4_p r4_n i_21 1 fun a29 =>
                    (∃ x30_p : Option Addr, ∃ x30_n : Nat, ∃ x30_c : Nat, w28.drew.cell? a29 = some (.slice x30_p x30_n x30_c) ∧ 
                    ixK x30_p x30_n j_27 1 fun a31 =>
                    (∃ x32 : Bool, w28.drew.cell? a31 = some (.bool x32) ∧ 
                    Calls Try.prog 18 #[.slice edges__p edges__n edges__c, .int .i64 i_21, .int .i64 j_27, .int .i64 (edges__n : Int)] w28.drew fun e w33 => ∃ r34 : Bool, e = .returned (.bool r34) ∧ 
                    cnd (!(x32 == r34))
                    (K (.bool false) w33)
                    (cnd has_26
                      (ixK edges__p edges__n i_21 1 fun a35 =>
                      ∃ x36_p : Option Addr, ∃ x36_n : Nat, ∃ x36_c : Nat, w33.cell? a35 = some (.slice x36_p x36_n x36_c) ∧ 
                      ixK x36_p x36_n j_27 1 fun a37 =>
                      ∃ x38 : Bool, w33.cell? a37 = some (.bool x38) ∧ 
                      cnd (!x38)
                      (∃ k25, k25 < k24 ∧ I23 true (IntKind.i64.wrap (j_27 + (1 : Int))) w33 k25)
                      (ixK r12_p r12_n i_21 1 fun a39 =>
                      ∃ x40_p : Option Addr, ∃ x40_n : Nat, ∃ x40_c : Nat, w33.cell? a39 = some (.slice x40_p x40_n x40_c) ∧ 
                      ixK x40_p x40_n j_27 1 fun a41 =>
                      ∃ x42 : Bool, w33.cell? a41 = some (.bool x42) ∧ 
                      ∃ k25, k25 < k24 ∧ I23 x42 (IntKind.i64.wrap (j_27 + (1 : Int))) w33 k25))
                      (∃ k25, k25 < k24 ∧ I23 false (IntKind.i64.wrap (j_27 + (1 : Int))) w33 k25))) ∧
                  (Calls Try.prog 18 #[.slice edges__p edges__n edges__c, .int .i64 i_21, .int .i64 j_27, .int .i64 (edges__n : Int)] w28.drew fun e w43 => ∃ r44 : Bool, e = .returned (.bool r44) ∧ 
                    ∃ x45 : Bool, w43.cell? a31 = some (.bool x45) ∧ 
                    cnd (!(x45 == r44))
                    (K (.bool false) w43)
                    (cnd has_26
                      (ixK edges__p edges__n i_21 1 fun a46 =>
                      ∃ x47_p : Option Addr, ∃ x47_n : Nat, ∃ x47_c : Nat, w43.cell? a46 = some (.slice x47_p x47_n x47_c) ∧ 
                      ixK x47_p x47_n j_27 1 fun a48 =>
                      ∃ x49 : Bool, w43.cell? a48 = some (.bool x49) ∧ 
                      cnd (!x49)
                      (∃ k25, k25 < k24 ∧ I23 true (IntKind.i64.wrap (j_27 + (1 : Int))) w43 k25)
                      (ixK r12_p r12_n i_21 1 fun a50 =>
                      ∃ x51_p : Option Addr, ∃ x51_n : Nat, ∃ x51_c : Nat, w43.cell? a50 = some (.slice x51_p x51_n x51_c) ∧ 
                      ixK x51_p x51_n j_27 1 fun a52 =>
                      ∃ x53 : Bool, w43.cell? a52 = some (.bool x53) ∧ 
                      ∃ k25, k25 < k24 ∧ I23 x53 (IntKind.i64.wrap (j_27 + (1 : Int))) w43 k25))
                      (∃ k25, k25 < k24 ∧ I23 false (IntKind.i64.wrap (j_27 + (1 : Int))) w43 k25)))) ∧
                  (Calls Try.prog 18 #[.slice edges__p edges__n edges__c, .int .i64 i_21, .int .i64 j_27, .int .i64 (edges__n : Int)] w28.drew fun e w54 => ∃ r55 : Bool, e = .returned (.bool r55) ∧ 
                    ∃ x56_p : Option Addr, ∃ x56_n : Nat, ∃ x56_c : Nat, w54.cell? a29 = some (.slice x56_p x56_n x56_c) ∧ 
                    ixK x56_p x56_n j_27 1 fun a57 =>
                    ∃ x58 : Bool, w54.cell? a57 = some (.bool x58) ∧ 
                    cnd (!(x58 == r55))
                    (K (.bool false) w54)
                    (cnd has_26
                      (ixK edges__p edges__n i_21 1 fun a59 =>
                      ∃ x60_p : Option Addr, ∃ x60_n : Nat, ∃ x60_c : Nat, w54.cell? a59 = some (.slice x60_p x60_n x60_c) ∧ 
                      ixK x60_p x60_n j_27 1 fun a61 =>
                      ∃ x62 : Bool, w54.cell? a61 = some (.bool x62) ∧ 
                      cnd (!x62)
                      (∃ k25, k25 < k24 ∧ I23 true (IntKind.i64.wrap (j_27 + (1 : Int))) w54 k25)
                      (ixK r12_p r12_n i_21 1 fun a63 =>
                      ∃ x64_p : Option Addr, ∃ x64_n : Nat, ∃ x64_c : Nat, w54.cell? a63 = some (.slice x64_p x64_n x64_c) ∧ 
                      ixK x64_p x64_n j_27 1 fun a65 =>
                      ∃ x66 : Bool, w54.cell? a65 = some (.bool x66) ∧ 
                      ∃ k25, k25 < k24 ∧ I23 x66 (IntKind.i64.wrap (j_27 + (1 : Int))) w54 k25))
                      (∃ k25, k25 < k24 ∧ I23 false (IntKind.i64.wrap (j_27 + (1 : Int))) w54 k25))))
                  (∃ k19, k19 < k18 ∧ I17 has_26 (IntKind.i64.wrap (i_21 + (1 : Int))) w28 k19))
              (∃ I67 : Int → World → Nat → Prop, (∃ k68, I67 0 w22 k68) ∧
                ∀ (i_70 : Int) (w71 : World) (k68 : Nat) (_ : Fr), I67 i_70 w71 k68 →
                cnd (decide (i_70 < (edges__n : Int)))
                  (cnd has_20
                  (∃ I72 : Int → World → Nat → Prop, (∃ k73, I72 0 w71 k73) ∧
                    ∀ (j_75 : Int) (w76 : World) (k73 : Nat) (_ : Fr), I72 j_75 w76 k73 →
                    cnd (decide (j_75 < (edges__n : Int)))
                      (ixK r4_p r4_n i_70 1 fun a77 =>
                        ∃ x78_p : Option Addr, ∃ x78_n : Nat, ∃ x78_c : Nat, w76.cell? a77 = some (.slice x78_p x78_n x78_c) ∧ 
                        ixK x78_p x78_n j_75 1 fun a79 =>
                        ∃ x80 : Bool, w76.cell? a79 = some (.bool x80) ∧ 
                        cnd x80
                        (ixK r12_p r12_n i_70 1 fun a81 =>
                        ∃ x82_p : Option Addr, ∃ x82_n : Nat, ∃ x82_c : Nat, w76.cell? a81 = some (.slice x82_p x82_n x82_c) ∧ 
                        ixK x82_p x82_n j_75 1 fun a83 =>
                        ∃ x84 : Bool, w76.cell? a83 = some (.bool x84) ∧ 
                        cnd (!x84)
                        (K (.bool false) w76)
                        (∃ k74, k74 < k73 ∧ I72 (IntKind.i64.wrap (j_75 + (1 : Int))) w76 k74))
                        (∃ k74, k74 < k73 ∧ I72 (IntKind.i64.wrap (j_75 + (1 : Int))) w76 k74))
                      (∃ k69, k69 < k68 ∧ I67 (IntKind.i64.wrap (i_70 + (1 : Int))) w76 k69))
                  (Calls Try.prog 17 #[.slice r4_p r4_n r4_c] w71 fun e w85 => ∃ r86 : Bool, e = .returned (.bool r86) ∧ 
                    cnd r86
                    (Calls Try.prog 11 #[] w85 fun e w87 => ∃ r88 : Bool, e = .returned (.bool r88) ∧ 
                    K (.bool r88) w87)
                    (K (.bool false) w85)))
                  (Calls Try.prog 17 #[.slice r4_p r4_n r4_c] w71 fun e w89 => ∃ r90 : Bool, e = .returned (.bool r90) ∧ 
                  cnd r90
                  (Calls Try.prog 11 #[] w89 fun e w91 => ∃ r92 : Bool, e = .returned (.bool r92) ∧ 
                  K (.bool r92) w91)
                  (K (.bool false) w89))))))))
theorem fathomlaw19_RankCloses.eq (edges__p : Option Addr) (edges__n : Nat) (edges__c : Nat) (other__p : Option Addr) (other__n : Nat) (other__c : Nat) (w : World) (K : Value → World → Prop) : wpF Try.prog Try.f4 (.two .leaf (.two .leaf (.two .leaf (.two .leaf (.two .leaf (.two .leaf (.two .leaf (.two .leaf (.two .leaf (.two .leaf (.two (.two .leaf (.one (.loop [(8, 4), (9, 3)] (.two .leaf (.two (.one (.two .leaf (.one (.loop [(8, 4), (10, 3)] .leaf)))) .leaf))))) (.two (.two .leaf (.one (.loop [(11, 3)] (.two .leaf (.two (.one (.two .leaf (.one (.loop [(12, 3)] .leaf)))) .leaf))))) .leaf)))))))))))) [.slice edges__p edges__n edges__c, .slice other__p other__n other__c] w K = fathomlaw19_RankCloses.w edges__p edges__n edges__c other__p other__n other__c w K := by kernel_rfl
theorem fathomlaw19_RankCloses.ok : fnOk Try.prog Try.f4 2 = true := by kernel_rfl
theorem fathomlaw19_RankCloses.calls {edges__p : Option Addr} {edges__n : Nat} {edges__c : Nat} {other__p : Option Addr} {other__n : Nat} {other__c : Nat} {w : World} {R : Ending → World → Prop} (h : fathomlaw19_RankCloses.w edges__p edges__n edges__c other__p other__n other__c w fun v w' => R (.returned v) w') : Calls Try.prog 4 #[.slice edges__p edges__n edges__c, .slice other__p other__n other__c] w R :=
  calls_of mixed Try.func4 fathomlaw19_RankCloses.ok rfl (fun K => fathomlaw19_RankCloses.eq edges__p edges__n edges__c other__p other__n other__c w K) h

/-! ### fathom/fathomlaw19.RankReaches: function 6 (named slots 20) -/
def fathomlaw19_RankReaches.w (size_ : Int) (edges__p : Option Addr) (edges__n : Nat) (edges__c : Nat) (ins__p : Option Addr) (ins__n : Nat) (ins__c : Nat) (w : World) (K : Value → World → Prop) : Prop :=
  (5 : Int) ≠ 0 ∧ Calls Try.prog 27 #[] w fun e w1 => ∃ r2 : Option Addr, e = .returned (.pointer r2) ∧ 
  Calls Try.prog 28 #[.pointer r2, .int .i64 (IntKind.i64.wrap (size_.tmod (5 : Int)))] w1 fun e w3 => ∃ r4_p : Option Addr, ∃ r4_n : Nat, ∃ r4_c : Nat, ∃ r5_p : Option Addr, ∃ r5_n : Nat, ∃ r5_c : Nat, e = .returned (.tuple #[.slice r4_p r4_n r4_c, .slice r5_p r5_n r5_c]) ∧ 
  cnd ((r4_n : Int) != (IntKind.i64.wrap (size_.tmod (5 : Int))))
  (K (.bool false) w3)
  (Calls Try.prog 29 #[.pointer r2] w3 fun e w6 => ∃ r7 : Int, e = .returned (.int .i64 r7) ∧ 
  cnd (r7 != (IntKind.i64.wrap ((IntKind.i64.wrap (size_.tmod (5 : Int))) * (IntKind.i64.wrap (size_.tmod (5 : Int))))))
  (K (.bool false) w6)
  (Calls Try.prog 16 #[.int .i64 (IntKind.i64.wrap (size_.tmod (5 : Int))), .slice edges__p edges__n edges__c] w6 fun e w8 => ∃ r9_p : Option Addr, ∃ r9_n : Nat, ∃ r9_c : Nat, e = .returned (.slice r9_p r9_n r9_c) ∧ 
    ∀ (n10 : Nat) (w11 : World), New (.cells #[] 24) w8 n10 w11 → 
    Calls Try.prog 16 #[.int .i64 (IntKind.i64.wrap (size_.tmod (5 : Int))), .slice ins__p ins__n ins__c] w11 fun e w12 => ∃ r13_p : Option Addr, ∃ r13_n : Nat, ∃ r13_c : Nat, e = .returned (.slice r13_p r13_n r13_c) ∧ 
    ∃ I14 : Option Addr → Nat → Nat → Bool → Int → World → Nat → Prop, (∃ k15, I14 (some (Addr.mk n10 0 none)) 0 0 true 0 w12 k15) ∧
    ∀ (lits_17_p : Option Addr) (lits_17_n : Nat) (lits_17_c : Nat) (fits_18 : Bool) (i_19 : Int) (w20 : World) (k15 : Nat) (_ : Fr), I14 lits_17_p lits_17_n lits_17_c fits_18 i_19 w20 k15 →
    cnd (decide (i_19 < (IntKind.i64.wrap (size_.tmod (5 : Int)))))
      (∀ (n21 : Nat) (w22 : World), New (.cells #[] 3) w20 n21 w22 → 
        ∃ I23 : Bool → Option Addr → Nat → Nat → Int → World → Nat → Prop, (∃ k24, I23 fits_18 (some (Addr.mk n21 0 none)) 0 0 0 w22 k24) ∧
        ∀ (fits_26 : Bool) (row_27_p : Option Addr) (row_27_n : Nat) (row_27_c : Nat) (j_28 : Int) (w29 : World) (k24 : Nat) (_ : Fr), I23 fits_26 row_27_p row_27_n row_27_c j_28 w29 k24 →
        cnd (decide (j_28 < (IntKind.i64.wrap (size_.tmod (5 : Int)))))
          (ixK r9_p r9_n i_19 1 fun a30 =>
            ∃ x31_p : Option Addr, ∃ x31_n : Nat, ∃ x31_c : Nat, w29.cell? a30 = some (.slice x31_p x31_n x31_c) ∧ 
            ixK x31_p x31_n j_28 1 fun a32 =>
            ∃ x33 : Bool, w29.cell? a32 = some (.bool x33) ∧ 
            cnd x33
            (∀ (n34 : Nat) (w35 : World), New (.cells #[.int .i64 1] 3) w29 n34 w35 → 
              ∃ w36 : World, ∃ r37_p : Option Addr, ∃ r37_n : Nat, ∃ r37_c : Nat, (Builtin.append_ #[24, 24] 24 #[.slice row_27_p row_27_n row_27_c, .slice (some (Addr.mk n34 0 none)) 1 1]).run Try.prog w35 = .ok (.slice r37_p r37_n r37_c) w36 ∧ 
              cnd fits_26
              (ixK r9_p r9_n i_19 1 fun a38 =>
              ∃ x39_p : Option Addr, ∃ x39_n : Nat, ∃ x39_c : Nat, w36.cell? a38 = some (.slice x39_p x39_n x39_c) ∧ 
              ixK x39_p x39_n j_28 1 fun a40 =>
              ∃ x41 : Bool, w36.cell? a40 = some (.bool x41) ∧ 
              cnd (!x41)
              (∃ k25, k25 < k24 ∧ I23 true r37_p r37_n r37_c (IntKind.i64.wrap (j_28 + (1 : Int))) w36 k25)
              (ixK r13_p r13_n i_19 1 fun a42 =>
              ∃ x43_p : Option Addr, ∃ x43_n : Nat, ∃ x43_c : Nat, w36.cell? a42 = some (.slice x43_p x43_n x43_c) ∧ 
              ixK x43_p x43_n j_28 1 fun a44 =>
              ∃ x45 : Bool, w36.cell? a44 = some (.bool x45) ∧ 
              ∃ k25, k25 < k24 ∧ I23 x45 r37_p r37_n r37_c (IntKind.i64.wrap (j_28 + (1 : Int))) w36 k25))
              (∃ k25, k25 < k24 ∧ I23 false r37_p r37_n r37_c (IntKind.i64.wrap (j_28 + (1 : Int))) w36 k25))
            (∀ (n46 : Nat) (w47 : World), New (.cells #[.int .i64 0] 3) w29 n46 w47 → 
              ∃ w48 : World, ∃ r49_p : Option Addr, ∃ r49_n : Nat, ∃ r49_c : Nat, (Builtin.append_ #[24, 24] 24 #[.slice row_27_p row_27_n row_27_c, .slice (some (Addr.mk n46 0 none)) 1 1]).run Try.prog w47 = .ok (.slice r49_p r49_n r49_c) w48 ∧ 
              cnd fits_26
              (ixK r9_p r9_n i_19 1 fun a50 =>
              ∃ x51_p : Option Addr, ∃ x51_n : Nat, ∃ x51_c : Nat, w48.cell? a50 = some (.slice x51_p x51_n x51_c) ∧ 
              ixK x51_p x51_n j_28 1 fun a52 =>
              ∃ x53 : Bool, w48.cell? a52 = some (.bool x53) ∧ 
              cnd (!x53)
              (∃ k25, k25 < k24 ∧ I23 true r49_p r49_n r49_c (IntKind.i64.wrap (j_28 + (1 : Int))) w48 k25)
              (ixK r13_p r13_n i_19 1 fun a54 =>
              ∃ x55_p : Option Addr, ∃ x55_n : Nat, ∃ x55_c : Nat, w48.cell? a54 = some (.slice x55_p x55_n x55_c) ∧ 
              ixK x55_p x55_n j_28 1 fun a56 =>
              ∃ x57 : Bool, w48.cell? a56 = some (.bool x57) ∧ 
              ∃ k25, k25 < k24 ∧ I23 x57 r49_p r49_n r49_c (IntKind.i64.wrap (j_28 + (1 : Int))) w48 k25))
              (∃ k25, k25 < k24 ∧ I23 false r49_p r49_n r49_c (IntKind.i64.wrap (j_28 + (1 : Int))) w48 k25)))
          (∀ (n58 : Nat) (w59 : World), New (.cells #[.slice row_27_p row_27_n row_27_c] 24) w29 n58 w59 → 
            ∃ w60 : World, ∃ r61_p : Option Addr, ∃ r61_n : Nat, ∃ r61_c : Nat, (Builtin.append_ #[34, 34] 34 #[.slice lits_17_p lits_17_n lits_17_c, .slice (some (Addr.mk n58 0 none)) 1 1]).run Try.prog w59 = .ok (.slice r61_p r61_n r61_c) w60 ∧ 
            ∃ k16, k16 < k15 ∧ I14 r61_p r61_n r61_c fits_26 (IntKind.i64.wrap (i_19 + (1 : Int))) w60 k16))
      (∀ (n62 : Nat) (w63 : World), New (.cells #[] 24) w20 n62 w63 → 
        ∃ w64 : World, ∃ r65_p : Option Addr, ∃ r65_n : Nat, ∃ r65_c : Nat, (Builtin.append_ #[34, 34] 34 #[.slice (some (Addr.mk n62 0 none)) 0 0, .slice r5_p r5_n r5_c]).run Try.prog w63 = .ok (.slice r65_p r65_n r65_c) w64 ∧ 
        Calls Try.prog 30 #[.pointer r2, .slice r4_p r4_n r4_c, .slice lits_17_p lits_17_n lits_17_c] w64 fun e w66 => ∃ r67_p : Option Addr, ∃ r67_n : Nat, ∃ r67_c : Nat, e = .returned (.slice r67_p r67_n r67_c) ∧ 
        ∃ w68 : World, ∃ r69_p : Option Addr, ∃ r69_n : Nat, ∃ r69_c : Nat, (Builtin.append_ #[34, 34] 34 #[.slice r65_p r65_n r65_c, .slice r67_p r67_n r67_c]).run Try.prog w66 = .ok (.slice r69_p r69_n r69_c) w68 ∧ 
        Calls Try.prog 32 #[.pointer r2] w68 fun e w70 => ∃ r71_p : Option Addr, ∃ r71_n : Nat, ∃ r71_c : Nat, e = .returned (.slice r71_p r71_n r71_c) ∧ 
        Calls Try.prog 31 #[.slice r71_p r71_n r71_c, .slice r69_p r69_n r69_c, .slice ins__p ins__n ins__c] w70 fun e w72 => ∃ r73 : Bool, e = .returned (.bool r73) ∧ 
        cnd fits_18
        (Calls Try.prog 17 #[.slice r13_p r13_n r13_c] w72 fun e w74 => ∃ r75 : Bool, e = .returned (.bool r75) ∧ 
        cnd (r73 == r75)
        (Calls Try.prog 11 #[] w74 fun e w76 => ∃ r77 : Bool, e = .returned (.bool r77) ∧ 
        K (.bool r77) w76)
        (K (.bool false) w74))
        (cnd (r73 == false)
        (Calls Try.prog 11 #[] w72 fun e w78 => ∃ r79 : Bool, e = .returned (.bool r79) ∧ 
        K (.bool r79) w78)
        (K (.bool false) w72)))))
theorem fathomlaw19_RankReaches.eq (size_ : Int) (edges__p : Option Addr) (edges__n : Nat) (edges__c : Nat) (ins__p : Option Addr) (ins__n : Nat) (ins__c : Nat) (w : World) (K : Value → World → Prop) : wpF Try.prog Try.f6 (.two .leaf (.two .leaf (.two .leaf (.two .leaf (.two .leaf (.two .leaf (.two .leaf (.two .leaf (.two .leaf (.two (.two .leaf (.one (.loop [(12, 34), (13, 4), (15, 3)] (.two .leaf (.two (.one (.two .leaf (.two (.two .leaf (.one (.loop [(13, 4), (16, 24), (17, 3)] .leaf))) .leaf))) .leaf))))) .leaf)))))))))) [.int .u8 size_, .slice edges__p edges__n edges__c, .slice ins__p ins__n ins__c] w K = fathomlaw19_RankReaches.w size_ edges__p edges__n edges__c ins__p ins__n ins__c w K := by kernel_rfl
theorem fathomlaw19_RankReaches.ok : fnOk Try.prog Try.f6 3 = true := by kernel_rfl
theorem fathomlaw19_RankReaches.calls {size_ : Int} {edges__p : Option Addr} {edges__n : Nat} {edges__c : Nat} {ins__p : Option Addr} {ins__n : Nat} {ins__c : Nat} {w : World} {R : Ending → World → Prop} (h : fathomlaw19_RankReaches.w size_ edges__p edges__n edges__c ins__p ins__n ins__c w fun v w' => R (.returned v) w') : Calls Try.prog 6 #[.int .u8 size_, .slice edges__p edges__n edges__c, .slice ins__p ins__n ins__c] w R :=
  calls_of mixed Try.func6 fathomlaw19_RankReaches.ok rfl (fun K => fathomlaw19_RankReaches.eq size_ edges__p edges__n edges__c ins__p ins__n ins__c w K) h

/-! ### fathom/fathomlaw19.RankRefuses: function 9 (named slots 14) cuts [(3, 99)] -/
def fathomlaw19_RankRefuses.w (n_ : Int) (s__p : Option Addr) (s__n : Nat) (s__c : Nat) (w : World) (K : Value → World → Prop) : Prop :=
  Calls Try.prog 27 #[] w fun e w1 => ∃ r2 : Option Addr, e = .returned (.pointer r2) ∧ 
  Calls Try.prog 41 #[.pointer r2] w1 fun e w3 => ∃ r4 : Int, e = .returned (.int .i64 r4) ∧ 
  ∃ J5 : World → Prop, (cnd (decide (n_ < (0 : Int)))
  (Calls Try.prog 42 #[.pointer r2, .int .i64 n_] w3 fun e w6 => ∃ r7_p : Option Addr, ∃ r7_n : Nat, ∃ r7_c : Nat, ∃ r8_p : Option Addr, ∃ r8_n : Nat, ∃ r8_c : Nat, e = .returned (.tuple #[.slice r7_p r7_n r7_c, .slice r8_p r8_n r8_c]) ∧ 
  Calls Try.prog 28 #[.pointer r2, .int .i64 n_] w6 fun e w9 => ∃ r10_p : Option Addr, ∃ r10_n : Nat, ∃ r10_c : Nat, ∃ r11_p : Option Addr, ∃ r11_n : Nat, ∃ r11_c : Nat, e = .returned (.tuple #[.slice r10_p r10_n r10_c, .slice r11_p r11_n r11_c]) ∧ 
  cnd ((r7_n : Int) != (0 : Int))
  (K (.bool false) w9)
  (cnd ((r8_n : Int) != (0 : Int))
  (K (.bool false) w9)
  (cnd ((r10_n : Int) != (0 : Int))
  (K (.bool false) w9)
  (cnd ((r11_n : Int) != (0 : Int))
  (K (.bool false) w9)
  (Calls Try.prog 29 #[.pointer r2] w9 fun e w12 => ∃ r13 : Int, e = .returned (.int .i64 r13) ∧ 
  cnd (r13 != (1 : Int))
  (K (.bool false) w12)
  (J5 w12))))))
  (cnd (decide (n_ > (40 : Int)))
  (Calls Try.prog 42 #[.pointer r2, .int .i64 n_] w3 fun e w14 => ∃ r15_p : Option Addr, ∃ r15_n : Nat, ∃ r15_c : Nat, ∃ r16_p : Option Addr, ∃ r16_n : Nat, ∃ r16_c : Nat, e = .returned (.tuple #[.slice r15_p r15_n r15_c, .slice r16_p r16_n r16_c]) ∧ 
    Calls Try.prog 28 #[.pointer r2, .int .i64 n_] w14 fun e w17 => ∃ r18_p : Option Addr, ∃ r18_n : Nat, ∃ r18_c : Nat, ∃ r19_p : Option Addr, ∃ r19_n : Nat, ∃ r19_c : Nat, e = .returned (.tuple #[.slice r18_p r18_n r18_c, .slice r19_p r19_n r19_c]) ∧ 
    cnd ((r15_n : Int) != (0 : Int))
    (K (.bool false) w17)
    (cnd ((r16_n : Int) != (0 : Int))
    (K (.bool false) w17)
    (cnd ((r18_n : Int) != (0 : Int))
    (K (.bool false) w17)
    (cnd ((r19_n : Int) != (0 : Int))
    (K (.bool false) w17)
    (Calls Try.prog 29 #[.pointer r2] w17 fun e w20 => ∃ r21 : Int, e = .returned (.int .i64 r21) ∧ 
    cnd (r21 != (1 : Int))
    (K (.bool false) w20)
    (J5 w20))))))
  (J5 w3))) ∧
  ∀ (w22 : World) (_ : Fr), J5 w22 → 
  cnd (decide ((s__n : Int) > (50 : Int)))
  (Calls Try.prog 11 #[] w22 fun e w23 => ∃ r24 : Bool, e = .returned (.bool r24) ∧ 
    K (.bool r24) w23)
  (∃ I25 : Bool → Int → World → Nat → Prop, (∃ k26, I25 (decide ((s__n : Int) ≤ (40 : Int))) 0 w22 k26) ∧
    ∀ (may_28 : Bool) (i_29 : Int) (w30 : World) (k26 : Nat) (_ : Fr), I25 may_28 i_29 w30 k26 →
    cnd (decide (i_29 < (s__n : Int)))
      (cnd may_28
        (ixK s__p s__n i_29 1 fun a31 =>
        ∃ x32_p : Option Addr, ∃ x32_n : Nat, ∃ x32_c : Nat, w30.cell? a31 = some (.slice x32_p x32_n x32_c) ∧ 
        ∃ I33 : Bool → Int → World → Nat → Prop, (∃ k34, I33 ((x32_n : Int) == (s__n : Int)) 0 w30 k34) ∧
        ∀ (may_36 : Bool) (k_37 : Int) (w38 : World) (k34 : Nat) (_ : Fr), I33 may_36 k_37 w38 k34 →
        ixK s__p s__n i_29 1 fun a39 =>
          ∃ x40_p : Option Addr, ∃ x40_n : Nat, ∃ x40_c : Nat, w38.cell? a39 = some (.slice x40_p x40_n x40_c) ∧ 
          cnd (decide (k_37 < (x40_n : Int)))
          (cnd (decide (k_37 < (60 : Int)))
          (cnd may_36
            (ixK s__p s__n i_29 1 fun a41 =>
            ∃ x42_p : Option Addr, ∃ x42_n : Nat, ∃ x42_c : Nat, w38.cell? a41 = some (.slice x42_p x42_n x42_c) ∧ 
            ixK x42_p x42_n k_37 1 fun a43 =>
            ∃ x44 : Int, w38.cell? a43 = some (.int .i64 x44) ∧ 
            cnd (decide (x44 ≥ (0 : Int)))
            (ixK s__p s__n i_29 1 fun a45 =>
            ∃ x46_p : Option Addr, ∃ x46_n : Nat, ∃ x46_c : Nat, w38.cell? a45 = some (.slice x46_p x46_n x46_c) ∧ 
            ixK x46_p x46_n k_37 1 fun a47 =>
            ∃ x48 : Int, w38.cell? a47 = some (.int .i64 x48) ∧ 
            ∃ k35, k35 < k34 ∧ I33 (decide (x48 ≤ (3 : Int))) (IntKind.i64.wrap (k_37 + (1 : Int))) w38 k35)
            (∃ k35, k35 < k34 ∧ I33 false (IntKind.i64.wrap (k_37 + (1 : Int))) w38 k35))
            (∃ k35, k35 < k34 ∧ I33 false (IntKind.i64.wrap (k_37 + (1 : Int))) w38 k35))
          (∃ k27, k27 < k26 ∧ I25 may_36 (IntKind.i64.wrap (i_29 + (1 : Int))) w38 k27))
          (∃ k27, k27 < k26 ∧ I25 may_36 (IntKind.i64.wrap (i_29 + (1 : Int))) w38 k27))
        (∃ I49 : Bool → Int → World → Nat → Prop, (∃ k50, I49 false 0 w30 k50) ∧
        ∀ (may_52 : Bool) (k_53 : Int) (w54 : World) (k50 : Nat) (_ : Fr), I49 may_52 k_53 w54 k50 →
        ixK s__p s__n i_29 1 fun a55 =>
          ∃ x56_p : Option Addr, ∃ x56_n : Nat, ∃ x56_c : Nat, w54.cell? a55 = some (.slice x56_p x56_n x56_c) ∧ 
          cnd (decide (k_53 < (x56_n : Int)))
          (cnd (decide (k_53 < (60 : Int)))
          (cnd may_52
            (ixK s__p s__n i_29 1 fun a57 =>
            ∃ x58_p : Option Addr, ∃ x58_n : Nat, ∃ x58_c : Nat, w54.cell? a57 = some (.slice x58_p x58_n x58_c) ∧ 
            ixK x58_p x58_n k_53 1 fun a59 =>
            ∃ x60 : Int, w54.cell? a59 = some (.int .i64 x60) ∧ 
            cnd (decide (x60 ≥ (0 : Int)))
            (ixK s__p s__n i_29 1 fun a61 =>
            ∃ x62_p : Option Addr, ∃ x62_n : Nat, ∃ x62_c : Nat, w54.cell? a61 = some (.slice x62_p x62_n x62_c) ∧ 
            ixK x62_p x62_n k_53 1 fun a63 =>
            ∃ x64 : Int, w54.cell? a63 = some (.int .i64 x64) ∧ 
            ∃ k51, k51 < k50 ∧ I49 (decide (x64 ≤ (3 : Int))) (IntKind.i64.wrap (k_53 + (1 : Int))) w54 k51)
            (∃ k51, k51 < k50 ∧ I49 false (IntKind.i64.wrap (k_53 + (1 : Int))) w54 k51))
            (∃ k51, k51 < k50 ∧ I49 false (IntKind.i64.wrap (k_53 + (1 : Int))) w54 k51))
          (∃ k27, k27 < k26 ∧ I25 may_52 (IntKind.i64.wrap (i_29 + (1 : Int))) w54 k27))
          (∃ k27, k27 < k26 ∧ I25 may_52 (IntKind.i64.wrap (i_29 + (1 : Int))) w54 k27)))
      (Calls Try.prog 43 #[.pointer r2, .slice s__p s__n s__c] w30 fun e w65 => ∃ r66_p : Option Addr, ∃ r66_n : Nat, ∃ r66_c : Nat, e = .returned (.slice r66_p r66_n r66_c) ∧ 
        cnd may_28
        (cnd ((r66_n : Int) == (s__n : Int))
          (Calls Try.prog 11 #[] w65 fun e w67 => ∃ r68 : Bool, e = .returned (.bool r68) ∧ 
          K (.bool r68) w67)
          (K (.bool false) w65))
        (cnd ((r66_n : Int) == (0 : Int))
          (Calls Try.prog 30 #[.pointer r2, .slice s__p s__n s__c, .slice s__p s__n s__c] w65 fun e w69 => ∃ r70_p : Option Addr, ∃ r70_n : Nat, ∃ r70_c : Nat, e = .returned (.slice r70_p r70_n r70_c) ∧ 
          cnd ((r70_n : Int) == (0 : Int))
          (∀ (n71 : Nat) (w72 : World), New (.cells #[.int .i64 0] 3) w69 n71 w72 → 
          Calls Try.prog 44 #[.slice (some (Addr.mk n71 0 none)) 1 1, .int .i64 0] w72 fun e w73 => ∃ r74 : Bool, e = .returned (.bool r74) ∧ 
          cnd r74
          (Calls Try.prog 11 #[] w73 fun e w75 => ∃ r76 : Bool, e = .returned (.bool r76) ∧ 
          K (.bool r76) w75)
          (K (.bool false) w73))
          (K (.bool false) w69))
          (K (.bool false) w65))))
theorem fathomlaw19_RankRefuses.eq (n_ : Int) (s__p : Option Addr) (s__n : Nat) (s__c : Nat) (w : World) (K : Value → World → Prop) : wpF Try.prog Try.f9 (.two .leaf (.two .leaf (.two .leaf (.cut [] .leaf (.two .leaf (.two .leaf (.two (.two .leaf (.one (.loop [(10, 4), (11, 3)] (.two .leaf (.two (.one (.two .leaf (.two .leaf (.one (.loop [(10, 4), (12, 3)] .leaf))))) .leaf))))) .leaf))))))) [.int .i64 n_, .slice s__p s__n s__c] w K = fathomlaw19_RankRefuses.w n_ s__p s__n s__c w K := by kernel_rfl
theorem fathomlaw19_RankRefuses.ok : fnOk Try.prog Try.f9 2 = true := by kernel_rfl
theorem fathomlaw19_RankRefuses.calls {n_ : Int} {s__p : Option Addr} {s__n : Nat} {s__c : Nat} {w : World} {R : Ending → World → Prop} (h : fathomlaw19_RankRefuses.w n_ s__p s__n s__c w fun v w' => R (.returned v) w') : Calls Try.prog 9 #[.int .i64 n_, .slice s__p s__n s__c] w R :=
  calls_of mixed Try.func9 fathomlaw19_RankRefuses.ok rfl (fun K => fathomlaw19_RankRefuses.eq n_ s__p s__n s__c w K) h

/-! ### fathom/fathomlaw19.RankOrders: function 10 (named slots 20) -/
def fathomlaw19_RankOrders.w (size_ : Int) (ins__p : Option Addr) (ins__n : Nat) (ins__c : Nat) (w : World) (K : Value → World → Prop) : Prop :=
  (6 : Int) ≠ 0 ∧ Calls Try.prog 27 #[] w fun e w1 => ∃ r2 : Option Addr, e = .returned (.pointer r2) ∧ 
  Calls Try.prog 42 #[.pointer r2, .int .i64 (IntKind.i64.wrap (size_.tmod (6 : Int)))] w1 fun e w3 => ∃ r4_p : Option Addr, ∃ r4_n : Nat, ∃ r4_c : Nat, ∃ r5_p : Option Addr, ∃ r5_n : Nat, ∃ r5_c : Nat, e = .returned (.tuple #[.slice r4_p r4_n r4_c, .slice r5_p r5_n r5_c]) ∧ 
  cnd ((r4_n : Int) != (IntKind.i64.wrap (size_.tmod (6 : Int))))
  (cnd (decide ((ins__n : Int) > (100 : Int)))
  (Calls Try.prog 11 #[] w3 fun e w6 => ∃ r7 : Bool, e = .returned (.bool r7) ∧ 
  K (.bool r7) w6)
  (K (.bool false) w3))
  (Calls Try.prog 29 #[.pointer r2] w3 fun e w8 => ∃ r9 : Int, e = .returned (.int .i64 r9) ∧ 
  (2 : Int) ≠ 0 ∧ cnd (r9 != (IntKind.i64.wrap ((IntKind.i64.wrap ((IntKind.i64.wrap (size_.tmod (6 : Int))) * (IntKind.i64.wrap ((IntKind.i64.wrap (size_.tmod (6 : Int))) - (1 : Int))))).tdiv (2 : Int))))
  (cnd (decide ((ins__n : Int) > (100 : Int)))
  (Calls Try.prog 11 #[] w8 fun e w10 => ∃ r11 : Bool, e = .returned (.bool r11) ∧ 
  K (.bool r11) w10)
  (K (.bool false) w8))
  (cnd (decide ((ins__n : Int) > (100 : Int)))
  (cnd (decide ((ins__n : Int) > (100 : Int)))
    (Calls Try.prog 11 #[] w8 fun e w12 => ∃ r13 : Bool, e = .returned (.bool r13) ∧ 
    K (.bool r13) w12)
    (K (.bool false) w8))
  (Calls Try.prog 16 #[.int .i64 (IntKind.i64.wrap (size_.tmod (6 : Int))), .slice none 0 0] w8 fun e w14 => ∃ r15_p : Option Addr, ∃ r15_n : Nat, ∃ r15_c : Nat, e = .returned (.slice r15_p r15_n r15_c) ∧ 
    ∃ I16 : Int → Int → World → Nat → Prop, (∃ k17, I16 0 0 w14 k17) ∧
    ∀ (at_19 : Int) (i_20 : Int) (w21 : World) (k17 : Nat) (_ : Fr), I16 at_19 i_20 w21 k17 →
    cnd (decide (i_20 < (IntKind.i64.wrap (size_.tmod (6 : Int)))))
      (∃ I22 : Int → Int → World → Nat → Prop, (∃ k23, I22 at_19 (IntKind.i64.wrap (i_20 + (1 : Int))) w21 k23) ∧
        ∀ (at_25 : Int) (j_26 : Int) (w27 : World) (k23 : Nat) (_ : Fr), I22 at_25 j_26 w27 k23 →
        cnd (decide (j_26 < (IntKind.i64.wrap (size_.tmod (6 : Int)))))
          (ixK r15_p r15_n i_20 1 fun a28 =>
            ∃ x29_p : Option Addr, ∃ x29_n : Nat, ∃ x29_c : Nat, w27.drew.cell? a28 = some (.slice x29_p x29_n x29_c) ∧ 
            cnd (decide (at_25 < (ins__n : Int)))
            (ixK ins__p ins__n at_25 1 fun a30 =>
            ∃ x31 : Bool, w27.drew.cell? a30 = some (.bool x31) ∧ 
            ixK x29_p x29_n j_26 1 fun a32 =>
            ∃ w33 : World, StoreAt a32 0 [.bool x31] w27.drew w33 ∧ 
            ixK r15_p r15_n j_26 1 fun a34 =>
            ∃ x35_p : Option Addr, ∃ x35_n : Nat, ∃ x35_c : Nat, w33.drew.cell? a34 = some (.slice x35_p x35_n x35_c) ∧ 
            ixK r15_p r15_n i_20 1 fun a36 =>
            ∃ x37_p : Option Addr, ∃ x37_n : Nat, ∃ x37_c : Nat, w33.drew.cell? a36 = some (.slice x37_p x37_n x37_c) ∧ 
            ixK x37_p x37_n j_26 1 fun a38 =>
            ∃ x39 : Bool, w33.drew.cell? a38 = some (.bool x39) ∧ 
            ixK x35_p x35_n i_20 1 fun a40 =>
            ∃ w41 : World, StoreAt a40 0 [.bool (!x39)] w33.drew w41 ∧ 
            ixK r4_p r4_n i_20 1 fun a42 =>
            ∃ x43_p : Option Addr, ∃ x43_n : Nat, ∃ x43_c : Nat, w41.cell? a42 = some (.slice x43_p x43_n x43_c) ∧ 
            ixK x43_p x43_n j_26 1 fun a44 =>
            ∃ x45 : Int, w41.cell? a44 = some (.int .i64 x45) ∧ 
            cnd (x45 != (IntKind.i64.wrap ((2 : Int) * (IntKind.i64.wrap (at_25 + (1 : Int))))))
            (K (.bool false) w41)
            (ixK r4_p r4_n j_26 1 fun a46 =>
            ∃ x47_p : Option Addr, ∃ x47_n : Nat, ∃ x47_c : Nat, w41.cell? a46 = some (.slice x47_p x47_n x47_c) ∧ 
            ixK x47_p x47_n i_20 1 fun a48 =>
            ∃ x49 : Int, w41.cell? a48 = some (.int .i64 x49) ∧ 
            cnd (x49 != (IntKind.i64.wrap ((IntKind.i64.wrap ((2 : Int) * (IntKind.i64.wrap (at_25 + (1 : Int))))) + (1 : Int))))
            (K (.bool false) w41)
            (∃ k24, k24 < k23 ∧ I22 (IntKind.i64.wrap (at_25 + (1 : Int))) (IntKind.i64.wrap (j_26 + (1 : Int))) w41 k24)))
            (ixK x29_p x29_n j_26 1 fun a50 =>
            ∃ w51 : World, StoreAt a50 0 [.bool false] w27.drew w51 ∧ 
            ixK r15_p r15_n j_26 1 fun a52 =>
            ∃ x53_p : Option Addr, ∃ x53_n : Nat, ∃ x53_c : Nat, w51.drew.cell? a52 = some (.slice x53_p x53_n x53_c) ∧ 
            ixK r15_p r15_n i_20 1 fun a54 =>
            ∃ x55_p : Option Addr, ∃ x55_n : Nat, ∃ x55_c : Nat, w51.drew.cell? a54 = some (.slice x55_p x55_n x55_c) ∧ 
            ixK x55_p x55_n j_26 1 fun a56 =>
            ∃ x57 : Bool, w51.drew.cell? a56 = some (.bool x57) ∧ 
            ixK x53_p x53_n i_20 1 fun a58 =>
            ∃ w59 : World, StoreAt a58 0 [.bool (!x57)] w51.drew w59 ∧ 
            ixK r4_p r4_n i_20 1 fun a60 =>
            ∃ x61_p : Option Addr, ∃ x61_n : Nat, ∃ x61_c : Nat, w59.cell? a60 = some (.slice x61_p x61_n x61_c) ∧ 
            ixK x61_p x61_n j_26 1 fun a62 =>
            ∃ x63 : Int, w59.cell? a62 = some (.int .i64 x63) ∧ 
            cnd (x63 != (IntKind.i64.wrap ((2 : Int) * (IntKind.i64.wrap (at_25 + (1 : Int))))))
            (K (.bool false) w59)
            (ixK r4_p r4_n j_26 1 fun a64 =>
            ∃ x65_p : Option Addr, ∃ x65_n : Nat, ∃ x65_c : Nat, w59.cell? a64 = some (.slice x65_p x65_n x65_c) ∧ 
            ixK x65_p x65_n i_20 1 fun a66 =>
            ∃ x67 : Int, w59.cell? a66 = some (.int .i64 x67) ∧ 
            cnd (x67 != (IntKind.i64.wrap ((IntKind.i64.wrap ((2 : Int) * (IntKind.i64.wrap (at_25 + (1 : Int))))) + (1 : Int))))
            (K (.bool false) w59)
            (∃ k24, k24 < k23 ∧ I22 (IntKind.i64.wrap (at_25 + (1 : Int))) (IntKind.i64.wrap (j_26 + (1 : Int))) w59 k24))))
          (∃ k18, k18 < k17 ∧ I16 at_25 (IntKind.i64.wrap (i_20 + (1 : Int))) w27 k18))
      (Calls Try.prog 14 #[.slice r15_p r15_n r15_c] w21 fun e w68 => ∃ r69 : Bool, e = .returned (.bool r69) ∧ 
        Calls Try.prog 32 #[.pointer r2] w68 fun e w70 => ∃ r71_p : Option Addr, ∃ r71_n : Nat, ∃ r71_c : Nat, e = .returned (.slice r71_p r71_n r71_c) ∧ 
        Calls Try.prog 31 #[.slice r71_p r71_n r71_c, .slice r5_p r5_n r5_c, .slice ins__p ins__n ins__c] w70 fun e w72 => ∃ r73 : Bool, e = .returned (.bool r73) ∧ 
        cnd (!(r73 == r69))
        (K (.bool false) w72)
        (Calls Try.prog 43 #[.pointer r2, .slice r4_p r4_n r4_c] w72 fun e w74 => ∃ r75_p : Option Addr, ∃ r75_n : Nat, ∃ r75_c : Nat, e = .returned (.slice r75_p r75_n r75_c) ∧ 
          Calls Try.prog 32 #[.pointer r2] w74 fun e w76 => ∃ r77_p : Option Addr, ∃ r77_n : Nat, ∃ r77_c : Nat, e = .returned (.slice r77_p r77_n r77_c) ∧ 
          Calls Try.prog 45 #[.slice r77_p r77_n r77_c, .slice ins__p ins__n ins__c] w76 fun e w78 => ∃ r79_p : Option Addr, ∃ r79_n : Nat, ∃ r79_c : Nat, e = .returned (.slice r79_p r79_n r79_c) ∧ 
          Calls Try.prog 12 #[.slice r15_p r15_n r15_c] w78 fun e w80 => ∃ r81_p : Option Addr, ∃ r81_n : Nat, ∃ r81_c : Nat, ∃ r82 : Bool, e = .returned (.tuple #[.slice r81_p r81_n r81_c, .bool r82]) ∧ 
          cnd ((r75_n : Int) != (IntKind.i64.wrap (size_.tmod (6 : Int))))
          (K (.bool false) w80)
          (cnd (!(r82 == r69))
          (K (.bool false) w80)
          (∃ I83 : Int → World → Nat → Prop, (∃ k84, I83 0 w80 k84) ∧
            ∀ (i_86 : Int) (w87 : World) (k84 : Nat) (_ : Fr), I83 i_86 w87 k84 →
            cnd (decide (i_86 < (IntKind.i64.wrap (size_.tmod (6 : Int)))))
              (cnd r69
              (ixK r75_p r75_n i_86 1 fun a88 =>
                ∃ x89_p : Option Addr, ∃ x89_n : Nat, ∃ x89_c : Nat, w87.cell? a88 = some (.slice x89_p x89_n x89_c) ∧ 
                Calls Try.prog 46 #[.slice r79_p r79_n r79_c, .slice x89_p x89_n x89_c] w87 fun e w90 => ∃ r91 : Int, e = .returned (.int .i64 r91) ∧ 
                cnd (decide (r91 ≥ (IntKind.i64.wrap (size_.tmod (6 : Int)))))
                (K (.bool false) w90)
                (ixK r81_p r81_n r91 1 fun a92 =>
                ∃ x93 : Int, w90.cell? a92 = some (.int .i64 x93) ∧ 
                cnd (x93 != i_86)
                (K (.bool false) w90)
                (∃ k85, k85 < k84 ∧ I83 (IntKind.i64.wrap (i_86 + (1 : Int))) w90 k85)))
              (Calls Try.prog 11 #[] w87 fun e w94 => ∃ r95 : Bool, e = .returned (.bool r95) ∧ 
                K (.bool r95) w94))
              (Calls Try.prog 11 #[] w87 fun e w96 => ∃ r97 : Bool, e = .returned (.bool r97) ∧ 
              K (.bool r97) w96))))))))
theorem fathomlaw19_RankOrders.eq (size_ : Int) (ins__p : Option Addr) (ins__n : Nat) (ins__c : Nat) (w : World) (K : Value → World → Prop) : wpF Try.prog Try.f10 (.two .leaf (.two .leaf (.two .leaf (.two .leaf (.two .leaf (.two .leaf (.two .leaf (.two (.two .leaf (.one (.loop [(10, 3), (11, 3)] (.two .leaf (.two (.one (.two .leaf (.one (.loop [(10, 3), (12, 3)] .leaf)))) .leaf))))) (.two .leaf (.two .leaf (.two .leaf (.two .leaf (.two .leaf (.two .leaf (.two (.two .leaf (.one (.loop [(18, 3)] .leaf))) .leaf))))))))))))))) [.int .u8 size_, .slice ins__p ins__n ins__c] w K = fathomlaw19_RankOrders.w size_ ins__p ins__n ins__c w K := by kernel_rfl
theorem fathomlaw19_RankOrders.ok : fnOk Try.prog Try.f10 2 = true := by kernel_rfl
theorem fathomlaw19_RankOrders.calls {size_ : Int} {ins__p : Option Addr} {ins__n : Nat} {ins__c : Nat} {w : World} {R : Ending → World → Prop} (h : fathomlaw19_RankOrders.w size_ ins__p ins__n ins__c w fun v w' => R (.returned v) w') : Calls Try.prog 10 #[.int .u8 size_, .slice ins__p ins__n ins__c] w R :=
  calls_of mixed Try.func10 fathomlaw19_RankOrders.ok rfl (fun K => fathomlaw19_RankOrders.eq size_ ins__p ins__n ins__c w K) h

/-! ### fathom/fathomlaw19.awake: function 11 (named slots 4) -/
def fathomlaw19_awake.w (w : World) (K : Value → World → Prop) : Prop :=
  Calls Try.prog 27 #[] w fun e w1 => ∃ r2 : Option Addr, e = .returned (.pointer r2) ∧ 
  Calls Try.prog 42 #[.pointer r2, .int .i64 3] w1 fun e w3 => ∃ r4_p : Option Addr, ∃ r4_n : Nat, ∃ r4_c : Nat, ∃ r5_p : Option Addr, ∃ r5_n : Nat, ∃ r5_c : Nat, e = .returned (.tuple #[.slice r4_p r4_n r4_c, .slice r5_p r5_n r5_c]) ∧ 
  cnd ((r4_n : Int) == (3 : Int))
  (cnd ((r5_n : Int) == (6 : Int))
  (Calls Try.prog 29 #[.pointer r2] w3 fun e w6 => ∃ r7 : Int, e = .returned (.int .i64 r7) ∧ 
  cnd (r7 == (3 : Int))
  (ixK r4_p r4_n 0 1 fun a8 =>
  ∃ x9_p : Option Addr, ∃ x9_n : Nat, ∃ x9_c : Nat, w6.cell? a8 = some (.slice x9_p x9_n x9_c) ∧ 
  ixK x9_p x9_n 1 1 fun a10 =>
  ∃ x11 : Int, w6.cell? a10 = some (.int .i64 x11) ∧ 
  cnd (x11 == (2 : Int))
  (ixK r4_p r4_n 1 1 fun a12 =>
  ∃ x13_p : Option Addr, ∃ x13_n : Nat, ∃ x13_c : Nat, w6.cell? a12 = some (.slice x13_p x13_n x13_c) ∧ 
  ixK x13_p x13_n 0 1 fun a14 =>
  ∃ x15 : Int, w6.cell? a14 = some (.int .i64 x15) ∧ 
  cnd (x15 == (3 : Int))
  (ixK r4_p r4_n 1 1 fun a16 =>
  ∃ x17_p : Option Addr, ∃ x17_n : Nat, ∃ x17_c : Nat, w6.cell? a16 = some (.slice x17_p x17_n x17_c) ∧ 
  ixK x17_p x17_n 1 1 fun a18 =>
  ∃ x19 : Int, w6.cell? a18 = some (.int .i64 x19) ∧ 
  K (.bool (x19 == (0 : Int))) w6)
  (K (.bool false) w6))
  (K (.bool false) w6))
  (K (.bool false) w6))
  (K (.bool false) w3))
  (K (.bool false) w3)
theorem fathomlaw19_awake.eq (w : World) (K : Value → World → Prop) : wpF Try.prog Try.f11 .leaf [] w K = fathomlaw19_awake.w  w K := by kernel_rfl
theorem fathomlaw19_awake.ok : fnOk Try.prog Try.f11 0 = true := by kernel_rfl
theorem fathomlaw19_awake.calls {w : World} {R : Ending → World → Prop} (h : fathomlaw19_awake.w  w fun v w' => R (.returned v) w') : Calls Try.prog 11 #[] w R :=
  calls_of mixed Try.func11 fathomlaw19_awake.ok rfl (fun K => fathomlaw19_awake.eq  w K) h

/-! ### fathom/rank.Sorted: function 12 (named slots 9) -/
def rank_Sorted.w (ahead__p : Option Addr) (ahead__n : Nat) (ahead__c : Nat) (w : World) (K : Value → World → Prop) : Prop :=
  Calls Try.prog 47 #[.slice ahead__p ahead__n ahead__c] w fun e w1 => ∃ r2 : Bool, e = .returned (.bool r2) ∧ 
  cnd (!r2)
  (K (.tuple #[.slice none 0 0, .bool false]) w1)
  (∃ w3 : World, ∃ r4_p : Option Addr, ∃ r4_n : Nat, ∃ r4_c : Nat, (Instr.makeSlice 24 (.int .i64 (ahead__n : Int)) (.int .i64 (ahead__n : Int))).run Try.prog w1 = .ok (.slice r4_p r4_n r4_c) w3 ∧ 
    ∃ I5 : Int → World → Nat → Prop, (∃ k6, I5 0 w3 k6) ∧
    ∀ (v8 : Int) (w9 : World) (k6 : Nat) (_ : Fr), I5 v8 w9 k6 →
    cnd (decide (v8 < (ahead__n : Int)))
      (ixK r4_p r4_n v8 1 fun a10 =>
        ∃ w11 : World, StoreAt a10 0 [.int .i64 (-1)] w9 w11 ∧ 
        ∃ k7, k7 < k6 ∧ I5 (IntKind.i64.wrap (v8 + (1 : Int))) w11 k7)
      (∃ I12 : Int → World → Nat → Prop, (∃ k13, I12 0 w9 k13) ∧
        ∀ (v15 : Int) (w16 : World) (k13 : Nat) (_ : Fr), I12 v15 w16 k13 →
        cnd (decide (v15 < (ahead__n : Int)))
          (∃ I17 : Int → Int → World → Nat → Prop, (∃ k18, I17 0 0 w16 k18) ∧
            ∀ (n_20 : Int) (v21 : Int) (w22 : World) (k18 : Nat) (_ : Fr), I17 n_20 v21 w22 k18 →
            cnd (decide (v21 < (ahead__n : Int)))
              (cnd (v21 != v15)
                (ixK ahead__p ahead__n v21 1 fun a23 =>
                ∃ x24_p : Option Addr, ∃ x24_n : Nat, ∃ x24_c : Nat, w22.drew.cell? a23 = some (.slice x24_p x24_n x24_c) ∧ 
                ixK x24_p x24_n v15 1 fun a25 =>
                ∃ x26 : Bool, w22.drew.cell? a25 = some (.bool x26) ∧ 
                ixK ahead__p ahead__n v15 1 fun a27 =>
                ∃ x28_p : Option Addr, ∃ x28_n : Nat, ∃ x28_c : Nat, w22.drew.cell? a27 = some (.slice x28_p x28_n x28_c) ∧ 
                ixK x28_p x28_n v21 1 fun a29 =>
                ∃ x30 : Bool, w22.drew.cell? a29 = some (.bool x30) ∧ 
                cnd (x26 == x30)
                (K (.tuple #[.slice none 0 0, .bool false]) w22.drew)
                (ixK ahead__p ahead__n v15 1 fun a31 =>
                ∃ x32_p : Option Addr, ∃ x32_n : Nat, ∃ x32_c : Nat, w22.drew.cell? a31 = some (.slice x32_p x32_n x32_c) ∧ 
                ixK x32_p x32_n v15 1 fun a33 =>
                ∃ x34 : Bool, w22.drew.cell? a33 = some (.bool x34) ∧ 
                cnd x34
                (K (.tuple #[.slice none 0 0, .bool false]) w22.drew)
                (ixK ahead__p ahead__n v21 1 fun a35 =>
                  ∃ x36_p : Option Addr, ∃ x36_n : Nat, ∃ x36_c : Nat, w22.drew.cell? a35 = some (.slice x36_p x36_n x36_c) ∧ 
                  ixK x36_p x36_n v15 1 fun a37 =>
                  ∃ x38 : Bool, w22.drew.cell? a37 = some (.bool x38) ∧ 
                  cnd x38
                  (∃ k19, k19 < k18 ∧ I17 (IntKind.i64.wrap (n_20 + (1 : Int))) (IntKind.i64.wrap (v21 + (1 : Int))) w22.drew k19)
                  (∃ k19, k19 < k18 ∧ I17 n_20 (IntKind.i64.wrap (v21 + (1 : Int))) w22.drew k19))))
                (ixK ahead__p ahead__n v15 1 fun a39 =>
                ∃ x40_p : Option Addr, ∃ x40_n : Nat, ∃ x40_c : Nat, w22.drew.cell? a39 = some (.slice x40_p x40_n x40_c) ∧ 
                ixK x40_p x40_n v15 1 fun a41 =>
                ∃ x42 : Bool, w22.drew.cell? a41 = some (.bool x42) ∧ 
                cnd x42
                (K (.tuple #[.slice none 0 0, .bool false]) w22.drew)
                (ixK ahead__p ahead__n v21 1 fun a43 =>
                  ∃ x44_p : Option Addr, ∃ x44_n : Nat, ∃ x44_c : Nat, w22.drew.cell? a43 = some (.slice x44_p x44_n x44_c) ∧ 
                  ixK x44_p x44_n v15 1 fun a45 =>
                  ∃ x46 : Bool, w22.drew.cell? a45 = some (.bool x46) ∧ 
                  cnd x46
                  (∃ k19, k19 < k18 ∧ I17 (IntKind.i64.wrap (n_20 + (1 : Int))) (IntKind.i64.wrap (v21 + (1 : Int))) w22.drew k19)
                  (∃ k19, k19 < k18 ∧ I17 n_20 (IntKind.i64.wrap (v21 + (1 : Int))) w22.drew k19))))
              (ixK r4_p r4_n n_20 1 fun a47 =>
                ∃ x48 : Int, w22.cell? a47 = some (.int .i64 x48) ∧ 
                cnd (x48 != (-1))
                (K (.tuple #[.slice none 0 0, .bool false]) w22)
                (ixK r4_p r4_n n_20 1 fun a49 =>
                  ∃ w50 : World, StoreAt a49 0 [.int .i64 v15] w22 w50 ∧ 
                  ∃ k14, k14 < k13 ∧ I12 (IntKind.i64.wrap (v15 + (1 : Int))) w50 k14)))
          (K (.tuple #[.slice r4_p r4_n r4_c, .bool true]) w16)))
theorem rank_Sorted.eq (ahead__p : Option Addr) (ahead__n : Nat) (ahead__c : Nat) (w : World) (K : Value → World → Prop) : wpF Try.prog Try.f12 (.two .leaf (.two .leaf (.two .leaf (.two (.two .leaf (.one (.loop [(17, 3)] .leaf))) (.two (.two .leaf (.one (.loop [(26, 3)] (.two .leaf (.two .leaf (.two (.one (.two .leaf (.two .leaf (.two (.two .leaf (.one (.loop [(7, 3), (31, 3)] .leaf))) .leaf)))) .leaf)))))) .leaf))))) [.slice ahead__p ahead__n ahead__c] w K = rank_Sorted.w ahead__p ahead__n ahead__c w K := by kernel_rfl
theorem rank_Sorted.ok : fnOk Try.prog Try.f12 1 = true := by kernel_rfl
theorem rank_Sorted.calls {ahead__p : Option Addr} {ahead__n : Nat} {ahead__c : Nat} {w : World} {R : Ending → World → Prop} (h : rank_Sorted.w ahead__p ahead__n ahead__c w fun v w' => R (.returned v) w') : Calls Try.prog 12 #[.slice ahead__p ahead__n ahead__c] w R :=
  calls_of mixed Try.func12 rank_Sorted.ok rfl (fun K => rank_Sorted.eq ahead__p ahead__n ahead__c w K) h

/-! ### fathom/fathomref19.Square: function 13 (named slots 4) -/
def fathomref19_Square.w (s__p : Option Addr) (s__n : Nat) (s__c : Nat) (w : World) (K : Value → World → Prop) : Prop :=
  ∃ I1 : Int → World → Nat → Prop, (∃ k2, I1 0 w k2) ∧
  ∀ (i_4 : Int) (w5 : World) (k2 : Nat) (_ : Fr), I1 i_4 w5 k2 →
  cnd (decide (i_4 < (s__n : Int)))
    (ixK s__p s__n i_4 1 fun a6 =>
      ∃ x7_p : Option Addr, ∃ x7_n : Nat, ∃ x7_c : Nat, w5.cell? a6 = some (.slice x7_p x7_n x7_c) ∧ 
      cnd ((x7_n : Int) != (s__n : Int))
      (K (.bool false) w5)
      (∃ k3, k3 < k2 ∧ I1 (IntKind.i64.wrap (i_4 + (1 : Int))) w5 k3))
    (K (.bool (decide ((s__n : Int) ≤ (40 : Int)))) w5)
theorem fathomref19_Square.eq (s__p : Option Addr) (s__n : Nat) (s__c : Nat) (w : World) (K : Value → World → Prop) : wpF Try.prog Try.f13 (.two .leaf (.two (.two .leaf (.one (.loop [(3, 3)] .leaf))) .leaf)) [.slice s__p s__n s__c] w K = fathomref19_Square.w s__p s__n s__c w K := by kernel_rfl
theorem fathomref19_Square.ok : fnOk Try.prog Try.f13 1 = true := by kernel_rfl
theorem fathomref19_Square.calls {s__p : Option Addr} {s__n : Nat} {s__c : Nat} {w : World} {R : Ending → World → Prop} (h : fathomref19_Square.w s__p s__n s__c w fun v w' => R (.returned v) w') : Calls Try.prog 13 #[.slice s__p s__n s__c] w R :=
  calls_of mixed Try.func13 fathomref19_Square.ok rfl (fun K => fathomref19_Square.eq s__p s__n s__c w K) h

/-! ### fathom/fathomref19.Order: function 14 (named slots 6) cuts [(4, 35)] -/
def fathomref19_Order.w (s__p : Option Addr) (s__n : Nat) (s__c : Nat) (w : World) (K : Value → World → Prop) : Prop :=
  ∃ I1 : Int → World → Nat → Prop, (∃ k2, I1 0 w k2) ∧
  ∀ (i_4 : Int) (w5 : World) (k2 : Nat) (_ : Fr), I1 i_4 w5 k2 →
  cnd (decide (i_4 < (s__n : Int)))
    (∃ I6 : Int → World → Nat → Prop, (∃ k7, I6 0 w5 k7) ∧
      ∀ (j_9 : Int) (w10 : World) (k7 : Nat) (_ : Fr), I6 j_9 w10 k7 →
      cnd (decide (j_9 < (s__n : Int)))
        (∃ J11 : World → Prop, (cnd (i_4 == j_9)
          (ixK s__p s__n i_4 1 fun a12 =>
          ∃ x13_p : Option Addr, ∃ x13_n : Nat, ∃ x13_c : Nat, w10.drew.cell? a12 = some (.slice x13_p x13_n x13_c) ∧ 
          ixK x13_p x13_n j_9 1 fun a14 =>
          ∃ x15 : Bool, w10.drew.cell? a14 = some (.bool x15) ∧ 
          cnd x15
          (K (.bool false) w10.drew)
          (cnd (i_4 != j_9)
          (ixK s__p s__n i_4 1 fun a16 =>
          ∃ x17_p : Option Addr, ∃ x17_n : Nat, ∃ x17_c : Nat, w10.drew.cell? a16 = some (.slice x17_p x17_n x17_c) ∧ 
          ixK x17_p x17_n j_9 1 fun a18 =>
          ∃ x19 : Bool, w10.drew.cell? a18 = some (.bool x19) ∧ 
          ixK s__p s__n j_9 1 fun a20 =>
          ∃ x21_p : Option Addr, ∃ x21_n : Nat, ∃ x21_c : Nat, w10.drew.cell? a20 = some (.slice x21_p x21_n x21_c) ∧ 
          ixK x21_p x21_n i_4 1 fun a22 =>
          ∃ x23 : Bool, w10.drew.cell? a22 = some (.bool x23) ∧ 
          cnd (x19 == x23)
          (K (.bool false) w10.drew)
          (J11 w10.drew))
          (J11 w10.drew)))
          (cnd (i_4 != j_9)
          (ixK s__p s__n i_4 1 fun a24 =>
          ∃ x25_p : Option Addr, ∃ x25_n : Nat, ∃ x25_c : Nat, w10.drew.cell? a24 = some (.slice x25_p x25_n x25_c) ∧ 
          ixK x25_p x25_n j_9 1 fun a26 =>
          ∃ x27 : Bool, w10.drew.cell? a26 = some (.bool x27) ∧ 
          ixK s__p s__n j_9 1 fun a28 =>
          ∃ x29_p : Option Addr, ∃ x29_n : Nat, ∃ x29_c : Nat, w10.drew.cell? a28 = some (.slice x29_p x29_n x29_c) ∧ 
          ixK x29_p x29_n i_4 1 fun a30 =>
          ∃ x31 : Bool, w10.drew.cell? a30 = some (.bool x31) ∧ 
          cnd (x27 == x31)
          (K (.bool false) w10.drew)
          (J11 w10.drew))
          (J11 w10.drew))) ∧
          ∀ (w32 : World) (_ : Fr), J11 w32 → 
          ∃ I33 : Int → World → Nat → Prop, (∃ k34, I33 0 w32 k34) ∧
          ∀ (k_36 : Int) (w37 : World) (k34 : Nat) (_ : Fr), I33 k_36 w37 k34 →
          cnd (decide (k_36 < (s__n : Int)))
            (ixK s__p s__n i_4 1 fun a38 =>
              ∃ x39_p : Option Addr, ∃ x39_n : Nat, ∃ x39_c : Nat, w37.cell? a38 = some (.slice x39_p x39_n x39_c) ∧ 
              ixK x39_p x39_n j_9 1 fun a40 =>
              ∃ x41 : Bool, w37.cell? a40 = some (.bool x41) ∧ 
              cnd x41
              (ixK s__p s__n j_9 1 fun a42 =>
              ∃ x43_p : Option Addr, ∃ x43_n : Nat, ∃ x43_c : Nat, w37.cell? a42 = some (.slice x43_p x43_n x43_c) ∧ 
              ixK x43_p x43_n k_36 1 fun a44 =>
              ∃ x45 : Bool, w37.cell? a44 = some (.bool x45) ∧ 
              cnd x45
              (ixK s__p s__n i_4 1 fun a46 =>
              ∃ x47_p : Option Addr, ∃ x47_n : Nat, ∃ x47_c : Nat, w37.cell? a46 = some (.slice x47_p x47_n x47_c) ∧ 
              ixK x47_p x47_n k_36 1 fun a48 =>
              ∃ x49 : Bool, w37.cell? a48 = some (.bool x49) ∧ 
              cnd (!x49)
              (K (.bool false) w37)
              (∃ k35, k35 < k34 ∧ I33 (IntKind.i64.wrap (k_36 + (1 : Int))) w37 k35))
              (∃ k35, k35 < k34 ∧ I33 (IntKind.i64.wrap (k_36 + (1 : Int))) w37 k35))
              (∃ k35, k35 < k34 ∧ I33 (IntKind.i64.wrap (k_36 + (1 : Int))) w37 k35))
            (∃ k8, k8 < k7 ∧ I6 (IntKind.i64.wrap (j_9 + (1 : Int))) w37 k8))
        (∃ k3, k3 < k2 ∧ I1 (IntKind.i64.wrap (i_4 + (1 : Int))) w10 k3))
    (K (.bool true) w5)
theorem fathomref19_Order.eq (s__p : Option Addr) (s__n : Nat) (s__c : Nat) (w : World) (K : Value → World → Prop) : wpF Try.prog Try.f14 (.two .leaf (.two (.two .leaf (.one (.loop [(3, 3)] (.two .leaf (.two (.one (.two .leaf (.one (.loop [(4, 3)] (.two .leaf (.two (.one (.cut [] .leaf (.two .leaf (.one (.loop [(5, 3)] .leaf))))) .leaf)))))) .leaf))))) .leaf)) [.slice s__p s__n s__c] w K = fathomref19_Order.w s__p s__n s__c w K := by kernel_rfl
theorem fathomref19_Order.ok : fnOk Try.prog Try.f14 1 = true := by kernel_rfl
theorem fathomref19_Order.calls {s__p : Option Addr} {s__n : Nat} {s__c : Nat} {w : World} {R : Ending → World → Prop} (h : fathomref19_Order.w s__p s__n s__c w fun v w' => R (.returned v) w') : Calls Try.prog 14 #[.slice s__p s__n s__c] w R :=
  calls_of mixed Try.func14 fathomref19_Order.ok rfl (fun K => fathomref19_Order.eq s__p s__n s__c w K) h

/-! ### fathom/rank.Closure: function 15 (named slots 9) -/
def rank_Closure.w (edges__p : Option Addr) (edges__n : Nat) (edges__c : Nat) (w : World) (K : Value → World → Prop) : Prop :=
  Calls Try.prog 47 #[.slice edges__p edges__n edges__c] w fun e w1 => ∃ r2 : Bool, e = .returned (.bool r2) ∧ 
  cnd (!r2)
  (K (.slice none 0 0) w1)
  (∃ I3 : Option Addr → Nat → Nat → Int → World → Nat → Prop, (∃ k4, I3 none 0 0 0 w1 k4) ∧
    ∀ (s_6_p : Option Addr) (s_6_n : Nat) (s_6_c : Nat) (v7 : Int) (w8 : World) (k4 : Nat) (_ : Fr), I3 s_6_p s_6_n s_6_c v7 w8 k4 →
    cnd (decide (v7 < (edges__n : Int)))
      (ixK edges__p edges__n v7 1 fun a9 =>
        ∃ x10_p : Option Addr, ∃ x10_n : Nat, ∃ x10_c : Nat, w8.cell? a9 = some (.slice x10_p x10_n x10_c) ∧ 
        Calls Try.prog 48 #[.slice x10_p x10_n x10_c] w8 fun e w11 => ∃ r12_p : Option Addr, ∃ r12_n : Nat, ∃ r12_c : Nat, e = .returned (.slice r12_p r12_n r12_c) ∧ 
        ∀ (n13 : Nat) (w14 : World), New (.cells #[.slice r12_p r12_n r12_c] 28) w11 n13 w14 → 
        ∃ w15 : World, ∃ r16_p : Option Addr, ∃ r16_n : Nat, ∃ r16_c : Nat, (Builtin.append_ #[22, 22] 22 #[.slice s_6_p s_6_n s_6_c, .slice (some (Addr.mk n13 0 none)) 1 1]).run Try.prog w14 = .ok (.slice r16_p r16_n r16_c) w15 ∧ 
        ∃ k5, k5 < k4 ∧ I3 r16_p r16_n r16_c (IntKind.i64.wrap (v7 + (1 : Int))) w15 k5)
      (∃ I17 : Int → World → Nat → Prop, (∃ k18, I17 0 w8 k18) ∧
        ∀ (v20 : Int) (w21 : World) (k18 : Nat) (_ : Fr), I17 v20 w21 k18 →
        cnd (decide (v20 < (s_6_n : Int)))
          (∃ I22 : Int → World → Nat → Prop, (∃ k23, I22 0 w21 k23) ∧
            ∀ (v25 : Int) (w26 : World) (k23 : Nat) (_ : Fr), I22 v25 w26 k23 →
            cnd (decide (v25 < (s_6_n : Int)))
              (∃ I27 : Int → World → Nat → Prop, (∃ k28, I27 0 w26 k28) ∧
                ∀ (v30 : Int) (w31 : World) (k28 : Nat) (_ : Fr), I27 v30 w31 k28 →
                cnd (decide (v30 < (s_6_n : Int)))
                  (ixK s_6_p s_6_n v25 1 fun a32 =>
                    ∃ x33_p : Option Addr, ∃ x33_n : Nat, ∃ x33_c : Nat, w31.drew.cell? a32 = some (.slice x33_p x33_n x33_c) ∧ 
                    ixK s_6_p s_6_n v25 1 fun a34 =>
                    ∃ x35_p : Option Addr, ∃ x35_n : Nat, ∃ x35_c : Nat, w31.drew.cell? a34 = some (.slice x35_p x35_n x35_c) ∧ 
                    ixK x35_p x35_n v30 1 fun a36 =>
                    ∃ x37 : Bool, w31.drew.cell? a36 = some (.bool x37) ∧ 
                    cnd x37
                    (ixK x33_p x33_n v30 1 fun a38 =>
                    ∃ w39 : World, StoreAt a38 0 [.bool true] w31.drew w39 ∧ 
                    ∃ k29, k29 < k28 ∧ I27 (IntKind.i64.wrap (v30 + (1 : Int))) w39 k29)
                    (ixK s_6_p s_6_n v25 1 fun a40 =>
                    ∃ x41_p : Option Addr, ∃ x41_n : Nat, ∃ x41_c : Nat, w31.drew.cell? a40 = some (.slice x41_p x41_n x41_c) ∧ 
                    ixK x41_p x41_n v20 1 fun a42 =>
                    ∃ x43 : Bool, w31.drew.cell? a42 = some (.bool x43) ∧ 
                    cnd x43
                    (ixK s_6_p s_6_n v20 1 fun a44 =>
                    ∃ x45_p : Option Addr, ∃ x45_n : Nat, ∃ x45_c : Nat, w31.drew.cell? a44 = some (.slice x45_p x45_n x45_c) ∧ 
                    ixK x45_p x45_n v30 1 fun a46 =>
                    ∃ x47 : Bool, w31.drew.cell? a46 = some (.bool x47) ∧ 
                    ixK x33_p x33_n v30 1 fun a48 =>
                    ∃ w49 : World, StoreAt a48 0 [.bool x47] w31.drew w49 ∧ 
                    ∃ k29, k29 < k28 ∧ I27 (IntKind.i64.wrap (v30 + (1 : Int))) w49 k29)
                    (ixK x33_p x33_n v30 1 fun a50 =>
                    ∃ w51 : World, StoreAt a50 0 [.bool false] w31.drew w51 ∧ 
                    ∃ k29, k29 < k28 ∧ I27 (IntKind.i64.wrap (v30 + (1 : Int))) w51 k29)))
                  (∃ k24, k24 < k23 ∧ I22 (IntKind.i64.wrap (v25 + (1 : Int))) w31 k24))
              (∃ k19, k19 < k18 ∧ I17 (IntKind.i64.wrap (v20 + (1 : Int))) w26 k19))
          (K (.slice s_6_p s_6_n s_6_c) w21)))
theorem rank_Closure.eq (edges__p : Option Addr) (edges__n : Nat) (edges__c : Nat) (w : World) (K : Value → World → Prop) : wpF Try.prog Try.f15 (.two .leaf (.two .leaf (.two .leaf (.two (.two .leaf (.one (.loop [(3, 22), (14, 3)] .leaf))) (.two (.two .leaf (.one (.loop [(26, 3)] (.two .leaf (.two .leaf (.two (.one (.two .leaf (.two .leaf (.one (.loop [(31, 3)] (.two .leaf (.two .leaf (.two (.one (.two .leaf (.two .leaf (.one (.loop [(36, 3)] .leaf))))) .leaf)))))))) .leaf)))))) .leaf))))) [.slice edges__p edges__n edges__c] w K = rank_Closure.w edges__p edges__n edges__c w K := by kernel_rfl
theorem rank_Closure.ok : fnOk Try.prog Try.f15 1 = true := by kernel_rfl
theorem rank_Closure.calls {edges__p : Option Addr} {edges__n : Nat} {edges__c : Nat} {w : World} {R : Ending → World → Prop} (h : rank_Closure.w edges__p edges__n edges__c w fun v w' => R (.returned v) w') : Calls Try.prog 15 #[.slice edges__p edges__n edges__c] w R :=
  calls_of mixed Try.func15 rank_Closure.ok rfl (fun K => rank_Closure.eq edges__p edges__n edges__c w K) h

/-! ### fathom/fathomlaw19.filled: function 16 (named slots 9) -/
def fathomlaw19_filled.w (n_ : Int) (l__p : Option Addr) (l__n : Nat) (l__c : Nat) (w : World) (K : Value → World → Prop) : Prop :=
  ∀ (n1 : Nat) (w2 : World), New (.cells #[] 28) w n1 w2 → 
  ∃ I3 : Option Addr → Nat → Nat → Int → World → Nat → Prop, (∃ k4, I3 (some (Addr.mk n1 0 none)) 0 0 0 w2 k4) ∧
  ∀ (s_6_p : Option Addr) (s_6_n : Nat) (s_6_c : Nat) (i_7 : Int) (w8 : World) (k4 : Nat) (_ : Fr), I3 s_6_p s_6_n s_6_c i_7 w8 k4 →
  cnd (decide (i_7 < n_))
    (∃ w9 : World, ∃ r10_p : Option Addr, ∃ r10_n : Nat, ∃ r10_c : Nat, (Instr.makeSlice 28 (.int .i64 n_) (.int .i64 n_)).run Try.prog w8 = .ok (.slice r10_p r10_n r10_c) w9 ∧ 
      ∃ I11 : Int → World → Nat → Prop, (∃ k12, I11 0 w9 k12) ∧
      ∀ (j_14 : Int) (w15 : World) (k12 : Nat) (_ : Fr), I11 j_14 w15 k12 →
      cnd (decide (j_14 < n_))
        (cnd (decide ((IntKind.i64.wrap ((IntKind.i64.wrap (i_7 * n_)) + j_14)) < (l__n : Int)))
          (ixK l__p l__n (IntKind.i64.wrap ((IntKind.i64.wrap (i_7 * n_)) + j_14)) 1 fun a16 =>
          ∃ x17 : Bool, w15.cell? a16 = some (.bool x17) ∧ 
          ixK r10_p r10_n j_14 1 fun a18 =>
          ∃ w19 : World, StoreAt a18 0 [.bool x17] w15 w19 ∧ 
          ∃ k13, k13 < k12 ∧ I11 (IntKind.i64.wrap (j_14 + (1 : Int))) w19 k13)
          (ixK r10_p r10_n j_14 1 fun a20 =>
          ∃ w21 : World, StoreAt a20 0 [.bool false] w15 w21 ∧ 
          ∃ k13, k13 < k12 ∧ I11 (IntKind.i64.wrap (j_14 + (1 : Int))) w21 k13))
        (∀ (n22 : Nat) (w23 : World), New (.cells #[.slice r10_p r10_n r10_c] 28) w15 n22 w23 → 
          ∃ w24 : World, ∃ r25_p : Option Addr, ∃ r25_n : Nat, ∃ r25_c : Nat, (Builtin.append_ #[22, 22] 22 #[.slice s_6_p s_6_n s_6_c, .slice (some (Addr.mk n22 0 none)) 1 1]).run Try.prog w23 = .ok (.slice r25_p r25_n r25_c) w24 ∧ 
          ∃ k5, k5 < k4 ∧ I3 r25_p r25_n r25_c (IntKind.i64.wrap (i_7 + (1 : Int))) w24 k5))
    (K (.slice s_6_p s_6_n s_6_c) w8)
theorem fathomlaw19_filled.eq (n_ : Int) (l__p : Option Addr) (l__n : Nat) (l__c : Nat) (w : World) (K : Value → World → Prop) : wpF Try.prog Try.f16 (.two .leaf (.two .leaf (.two (.two .leaf (.one (.loop [(5, 22), (6, 3)] (.two .leaf (.two (.one (.two .leaf (.two (.two .leaf (.one (.loop [(8, 3)] .leaf))) .leaf))) .leaf))))) .leaf))) [.int .i64 n_, .slice l__p l__n l__c] w K = fathomlaw19_filled.w n_ l__p l__n l__c w K := by kernel_rfl
theorem fathomlaw19_filled.ok : fnOk Try.prog Try.f16 2 = true := by kernel_rfl
theorem fathomlaw19_filled.calls {n_ : Int} {l__p : Option Addr} {l__n : Nat} {l__c : Nat} {w : World} {R : Ending → World → Prop} (h : fathomlaw19_filled.w n_ l__p l__n l__c w fun v w' => R (.returned v) w') : Calls Try.prog 16 #[.int .i64 n_, .slice l__p l__n l__c] w R :=
  calls_of mixed Try.func16 fathomlaw19_filled.ok rfl (fun K => fathomlaw19_filled.eq n_ l__p l__n l__c w K) h

/-! ### fathom/fathomref19.Closed: function 17 (named slots 6) -/
def fathomref19_Closed.w (s__p : Option Addr) (s__n : Nat) (s__c : Nat) (w : World) (K : Value → World → Prop) : Prop :=
  ∃ I1 : Int → World → Nat → Prop, (∃ k2, I1 0 w k2) ∧
  ∀ (i_4 : Int) (w5 : World) (k2 : Nat) (_ : Fr), I1 i_4 w5 k2 →
  cnd (decide (i_4 < (s__n : Int)))
    (∃ I6 : Int → World → Nat → Prop, (∃ k7, I6 0 w5 k7) ∧
      ∀ (j_9 : Int) (w10 : World) (k7 : Nat) (_ : Fr), I6 j_9 w10 k7 →
      cnd (decide (j_9 < (s__n : Int)))
        (∃ I11 : Int → World → Nat → Prop, (∃ k12, I11 0 w10 k12) ∧
          ∀ (k_14 : Int) (w15 : World) (k12 : Nat) (_ : Fr), I11 k_14 w15 k12 →
          cnd (decide (k_14 < (s__n : Int)))
            (cnd (i_4 != j_9)
              (cnd (j_9 != k_14)
              (ixK s__p s__n i_4 1 fun a16 =>
              ∃ x17_p : Option Addr, ∃ x17_n : Nat, ∃ x17_c : Nat, w15.cell? a16 = some (.slice x17_p x17_n x17_c) ∧ 
              ixK x17_p x17_n j_9 1 fun a18 =>
              ∃ x19 : Bool, w15.cell? a18 = some (.bool x19) ∧ 
              cnd x19
              (ixK s__p s__n j_9 1 fun a20 =>
              ∃ x21_p : Option Addr, ∃ x21_n : Nat, ∃ x21_c : Nat, w15.cell? a20 = some (.slice x21_p x21_n x21_c) ∧ 
              ixK x21_p x21_n k_14 1 fun a22 =>
              ∃ x23 : Bool, w15.cell? a22 = some (.bool x23) ∧ 
              cnd x23
              (ixK s__p s__n i_4 1 fun a24 =>
              ∃ x25_p : Option Addr, ∃ x25_n : Nat, ∃ x25_c : Nat, w15.cell? a24 = some (.slice x25_p x25_n x25_c) ∧ 
              ixK x25_p x25_n k_14 1 fun a26 =>
              ∃ x27 : Bool, w15.cell? a26 = some (.bool x27) ∧ 
              cnd (!x27)
              (K (.bool false) w15)
              (∃ k13, k13 < k12 ∧ I11 (IntKind.i64.wrap (k_14 + (1 : Int))) w15 k13))
              (∃ k13, k13 < k12 ∧ I11 (IntKind.i64.wrap (k_14 + (1 : Int))) w15 k13))
              (∃ k13, k13 < k12 ∧ I11 (IntKind.i64.wrap (k_14 + (1 : Int))) w15 k13))
              (∃ k13, k13 < k12 ∧ I11 (IntKind.i64.wrap (k_14 + (1 : Int))) w15 k13))
              (∃ k13, k13 < k12 ∧ I11 (IntKind.i64.wrap (k_14 + (1 : Int))) w15 k13))
            (∃ k8, k8 < k7 ∧ I6 (IntKind.i64.wrap (j_9 + (1 : Int))) w15 k8))
        (∃ k3, k3 < k2 ∧ I1 (IntKind.i64.wrap (i_4 + (1 : Int))) w10 k3))
    (K (.bool true) w5)
theorem fathomref19_Closed.eq (s__p : Option Addr) (s__n : Nat) (s__c : Nat) (w : World) (K : Value → World → Prop) : wpF Try.prog Try.f17 (.two .leaf (.two (.two .leaf (.one (.loop [(3, 3)] (.two .leaf (.two (.one (.two .leaf (.one (.loop [(4, 3)] (.two .leaf (.two (.one (.two .leaf (.one (.loop [(5, 3)] .leaf)))) .leaf)))))) .leaf))))) .leaf)) [.slice s__p s__n s__c] w K = fathomref19_Closed.w s__p s__n s__c w K := by kernel_rfl
theorem fathomref19_Closed.ok : fnOk Try.prog Try.f17 1 = true := by kernel_rfl
theorem fathomref19_Closed.calls {s__p : Option Addr} {s__n : Nat} {s__c : Nat} {w : World} {R : Ending → World → Prop} (h : fathomref19_Closed.w s__p s__n s__c w fun v w' => R (.returned v) w') : Calls Try.prog 17 #[.slice s__p s__n s__c] w R :=
  calls_of mixed Try.func17 fathomref19_Closed.ok rfl (fun K => fathomref19_Closed.eq s__p s__n s__c w K) h

/-! ### fathom/fathomref19.Reaches: function 18 (named slots 10) -/
def fathomref19_Reaches.w (edges__p : Option Addr) (edges__n : Nat) (edges__c : Nat) (from_ : Int) (to_ : Int) (steps_ : Int) (w : World) (K : Value → World → Prop) : Prop :=
  ixK edges__p edges__n from_ 1 fun a1 =>
  ∃ x2_p : Option Addr, ∃ x2_n : Nat, ∃ x2_c : Nat, w.cell? a1 = some (.slice x2_p x2_n x2_c) ∧ 
  ixK x2_p x2_n to_ 1 fun a3 =>
  ∃ x4 : Bool, w.cell? a3 = some (.bool x4) ∧ 
  cnd x4
  (K (.bool true) w)
  (∃ I5 : Int → World → Nat → Prop, (∃ k6, I5 0 w k6) ∧
    ∀ (k_8 : Int) (w9 : World) (k6 : Nat) (_ : Fr), I5 k_8 w9 k6 →
    cnd (decide (k_8 < (edges__n : Int)))
      (cnd (decide (steps_ > (1 : Int)))
      (ixK edges__p edges__n from_ 1 fun a10 =>
        ∃ x11_p : Option Addr, ∃ x11_n : Nat, ∃ x11_c : Nat, w9.cell? a10 = some (.slice x11_p x11_n x11_c) ∧ 
        ixK x11_p x11_n k_8 1 fun a12 =>
        ∃ x13 : Bool, w9.cell? a12 = some (.bool x13) ∧ 
        cnd x13
        (Calls Try.prog 18 #[.slice edges__p edges__n edges__c, .int .i64 k_8, .int .i64 to_, .int .i64 (IntKind.i64.wrap (steps_ - (1 : Int)))] w9 fun e w14 => ∃ r15 : Bool, e = .returned (.bool r15) ∧ 
        cnd r15
        (K (.bool true) w14)
        (∃ k7, k7 < k6 ∧ I5 (IntKind.i64.wrap (k_8 + (1 : Int))) w14 k7))
        (∃ k7, k7 < k6 ∧ I5 (IntKind.i64.wrap (k_8 + (1 : Int))) w9 k7))
      (K (.bool false) w9))
      (K (.bool false) w9))
theorem fathomref19_Reaches.eq (edges__p : Option Addr) (edges__n : Nat) (edges__c : Nat) (from_ : Int) (to_ : Int) (steps_ : Int) (w : World) (K : Value → World → Prop) : wpF Try.prog Try.f18 (.two .leaf (.two .leaf (.two (.two .leaf (.one (.loop [(9, 3)] .leaf))) .leaf))) [.slice edges__p edges__n edges__c, .int .i64 from_, .int .i64 to_, .int .i64 steps_] w K = fathomref19_Reaches.w edges__p edges__n edges__c from_ to_ steps_ w K := by kernel_rfl
theorem fathomref19_Reaches.ok : fnOk Try.prog Try.f18 4 = true := by kernel_rfl
theorem fathomref19_Reaches.calls {edges__p : Option Addr} {edges__n : Nat} {edges__c : Nat} {from_ : Int} {to_ : Int} {steps_ : Int} {w : World} {R : Ending → World → Prop} (h : fathomref19_Reaches.w edges__p edges__n edges__c from_ to_ steps_ w fun v w' => R (.returned v) w') : Calls Try.prog 18 #[.slice edges__p edges__n edges__c, .int .i64 from_, .int .i64 to_, .int .i64 steps_] w R :=
  calls_of mixed Try.func18 fathomref19_Reaches.ok rfl (fun K => fathomref19_Reaches.eq edges__p edges__n edges__c from_ to_ steps_ w K) h

/-! ### fathom/aig.New: function 27 (named slots 1) -/
def aig_New.w (w : World) (K : Value → World → Prop) : Prop :=
  ∀ (n1 : Nat) (w2 : World), New (.map #[] 0) w n1 w2 → 
  ∀ (n3 : Nat) (w4 : World), New (.cells #[.slice none 0 0, .map (some n1)] 91) w2 n3 w4 → 
  K (.pointer (some (Addr.mk n3 0 none))) w4
theorem aig_New.eq (w : World) (K : Value → World → Prop) : wpF Try.prog Try.f27 .leaf [] w K = aig_New.w  w K := by kernel_rfl
theorem aig_New.ok : fnOk Try.prog Try.f27 0 = true := by kernel_rfl
theorem aig_New.calls {w : World} {R : Ending → World → Prop} (h : aig_New.w  w fun v w' => R (.returned v) w') : Calls Try.prog 27 #[] w R :=
  calls_of mixed Try.func27 aig_New.ok rfl (fun K => aig_New.eq  w K) h

/-! ### fathom/rank.Reach: function 28 (named slots 11) -/
def rank_Reach.w (x0_ : Option Addr) (n_ : Int) (w : World) (K : Value → World → Prop) : Prop :=
  cnd (decide (n_ < (0 : Int)))
  (K (.tuple #[.slice none 0 0, .slice none 0 0]) w)
  (cnd (decide (n_ > (40 : Int)))
  (K (.tuple #[.slice none 0 0, .slice none 0 0]) w)
  (Calls Try.prog 59 #[.pointer x0_, .int .i64 (IntKind.i64.wrap (n_ * n_))] w fun e w1 => ∃ r2 : Bool, e = .returned (.bool r2) ∧ 
  cnd (!r2)
  (K (.tuple #[.slice none 0 0, .slice none 0 0]) w1)
  (Calls Try.prog 60 #[.int .i64 n_] w1 fun e w3 => ∃ r4_p : Option Addr, ∃ r4_n : Nat, ∃ r4_c : Nat, e = .returned (.slice r4_p r4_n r4_c) ∧ 
    ∃ I5 : Int → World → Nat → Prop, (∃ k6, I5 0 w3 k6) ∧
    ∀ (v8 : Int) (w9 : World) (k6 : Nat) (_ : Fr), I5 v8 w9 k6 →
    cnd (decide (v8 < n_))
      (∃ I10 : Int → World → Nat → Prop, (∃ k11, I10 0 w9 k11) ∧
        ∀ (v13 : Int) (w14 : World) (k11 : Nat) (_ : Fr), I10 v13 w14 k11 →
        cnd (decide (v13 < n_))
          (ixK r4_p r4_n v8 1 fun a15 =>
            (∃ x16_p : Option Addr, ∃ x16_n : Nat, ∃ x16_c : Nat, w14.drew.cell? a15 = some (.slice x16_p x16_n x16_c) ∧ 
            Calls Try.prog 41 #[.pointer x0_] w14.drew fun e w17 => ∃ r18 : Int, e = .returned (.int .i64 r18) ∧ 
            ixK x16_p x16_n v13 1 fun a19 =>
            ∃ w20 : World, StoreAt a19 0 [.int .i64 r18] w17 w20 ∧ 
            ∃ k12, k12 < k11 ∧ I10 (IntKind.i64.wrap (v13 + (1 : Int))) w20 k12) ∧
          (Calls Try.prog 41 #[.pointer x0_] w14.drew fun e w21 => ∃ r22 : Int, e = .returned (.int .i64 r22) ∧ 
            ∃ x23_p : Option Addr, ∃ x23_n : Nat, ∃ x23_c : Nat, w21.cell? a15 = some (.slice x23_p x23_n x23_c) ∧ 
            ixK x23_p x23_n v13 1 fun a24 =>
            ∃ w25 : World, StoreAt a24 0 [.int .i64 r22] w21 w25 ∧ 
            ∃ k12, k12 < k11 ∧ I10 (IntKind.i64.wrap (v13 + (1 : Int))) w25 k12))
          (∃ k7, k7 < k6 ∧ I5 (IntKind.i64.wrap (v8 + (1 : Int))) w14 k7))
      (∃ I26 : Option Addr → Nat → Nat → Int → World → Nat → Prop, (∃ k27, I26 none 0 0 0 w9 k27) ∧
        ∀ (must_29_p : Option Addr) (must_29_n : Nat) (must_29_c : Nat) (v30 : Int) (w31 : World) (k27 : Nat) (_ : Fr), I26 must_29_p must_29_n must_29_c v30 w31 k27 →
        cnd (decide (v30 < n_))
          (∃ I32 : Option Addr → Nat → Nat → Int → World → Nat → Prop, (∃ k33, I32 must_29_p must_29_n must_29_c 0 w31 k33) ∧
            ∀ (must_35_p : Option Addr) (must_35_n : Nat) (must_35_c : Nat) (v36 : Int) (w37 : World) (k33 : Nat) (_ : Fr), I32 must_35_p must_35_n must_35_c v36 w37 k33 →
            cnd (decide (v36 < n_))
              (∃ I38 : Option Addr → Nat → Nat → Int → World → Nat → Prop, (∃ k39, I38 must_35_p must_35_n must_35_c 0 w37 k39) ∧
                ∀ (must_41_p : Option Addr) (must_41_n : Nat) (must_41_c : Nat) (v42 : Int) (w43 : World) (k39 : Nat) (_ : Fr), I38 must_41_p must_41_n must_41_c v42 w43 k39 →
                cnd (decide (v42 < n_))
                  (cnd (v30 != v36)
                    (cnd (v36 != v42)
                    (ixK r4_p r4_n v30 1 fun a44 =>
                      ∃ x45_p : Option Addr, ∃ x45_n : Nat, ∃ x45_c : Nat, w43.drew.cell? a44 = some (.slice x45_p x45_n x45_c) ∧ 
                      ixK x45_p x45_n v36 1 fun a46 =>
                      ∃ x47 : Int, w43.drew.cell? a46 = some (.int .i64 x47) ∧ 
                      ixK r4_p r4_n v36 1 fun a48 =>
                      ∃ x49_p : Option Addr, ∃ x49_n : Nat, ∃ x49_c : Nat, w43.drew.cell? a48 = some (.slice x49_p x49_n x49_c) ∧ 
                      ixK x49_p x49_n v42 1 fun a50 =>
                      ∃ x51 : Int, w43.drew.cell? a50 = some (.int .i64 x51) ∧ 
                      ixK r4_p r4_n v30 1 fun a52 =>
                      ∃ x53_p : Option Addr, ∃ x53_n : Nat, ∃ x53_c : Nat, w43.drew.cell? a52 = some (.slice x53_p x53_n x53_c) ∧ 
                      ixK x53_p x53_n v42 1 fun a54 =>
                      ∃ x55 : Int, w43.drew.cell? a54 = some (.int .i64 x55) ∧ 
                      ∀ (n56 : Nat) (w57 : World), New (.cells #[.int .i64 (IntKind.i64.wrap ((BitVec.ofInt (IntKind.bits .i64) x47 ^^^ BitVec.ofInt (IntKind.bits .i64) (1 : Int)).toNat)), .int .i64 (IntKind.i64.wrap ((BitVec.ofInt (IntKind.bits .i64) x51 ^^^ BitVec.ofInt (IntKind.bits .i64) (1 : Int)).toNat)), .int .i64 x55] 3) w43.drew n56 w57 → 
                      ∀ (n58 : Nat) (w59 : World), New (.cells #[.slice (some (Addr.mk n56 0 none)) 3 3] 24) w57 n58 w59 → 
                      ∃ w60 : World, ∃ r61_p : Option Addr, ∃ r61_n : Nat, ∃ r61_c : Nat, (Builtin.append_ #[34, 34] 34 #[.slice must_41_p must_41_n must_41_c, .slice (some (Addr.mk n58 0 none)) 1 1]).run Try.prog w59 = .ok (.slice r61_p r61_n r61_c) w60 ∧ 
                      ∃ k40, k40 < k39 ∧ I38 r61_p r61_n r61_c (IntKind.i64.wrap (v42 + (1 : Int))) w60 k40)
                    (∃ k40, k40 < k39 ∧ I38 must_41_p must_41_n must_41_c (IntKind.i64.wrap (v42 + (1 : Int))) w43 k40))
                    (∃ k40, k40 < k39 ∧ I38 must_41_p must_41_n must_41_c (IntKind.i64.wrap (v42 + (1 : Int))) w43 k40))
                  (∃ k34, k34 < k33 ∧ I32 must_41_p must_41_n must_41_c (IntKind.i64.wrap (v36 + (1 : Int))) w43 k34))
              (∃ k28, k28 < k27 ∧ I26 must_35_p must_35_n must_35_c (IntKind.i64.wrap (v30 + (1 : Int))) w37 k28))
          (K (.tuple #[.slice r4_p r4_n r4_c, .slice must_29_p must_29_n must_29_c]) w31)))))
theorem rank_Reach.eq (x0_ : Option Addr) (n_ : Int) (w : World) (K : Value → World → Prop) : wpF Try.prog Try.f28 (.two .leaf (.two .leaf (.two .leaf (.two (.two .leaf (.one (.loop [(28, 3)] (.two .leaf (.two .leaf (.two (.one (.two .leaf (.two .leaf (.one (.loop [(32, 3)] .leaf))))) .leaf)))))) (.two (.two .leaf (.one (.loop [(5, 34), (46, 3)] (.two .leaf (.two .leaf (.two (.one (.two .leaf (.two .leaf (.one (.loop [(5, 34), (50, 3)] (.two .leaf (.two .leaf (.two (.one (.two .leaf (.two .leaf (.one (.loop [(5, 34), (54, 3)] .leaf))))) .leaf)))))))) .leaf)))))) .leaf))))) [.pointer x0_, .int .i64 n_] w K = rank_Reach.w x0_ n_ w K := by kernel_rfl
theorem rank_Reach.ok : fnOk Try.prog Try.f28 2 = true := by kernel_rfl
theorem rank_Reach.calls {x0_ : Option Addr} {n_ : Int} {w : World} {R : Ending → World → Prop} (h : rank_Reach.w x0_ n_ w fun v w' => R (.returned v) w') : Calls Try.prog 28 #[.pointer x0_, .int .i64 n_] w R :=
  calls_of mixed Try.func28 rank_Reach.ok rfl (fun K => rank_Reach.eq x0_ n_ w K) h

/-! ### (*fathom/aig.Aig).Len: function 29 (named slots 3) -/
def aig_Aig_Len.w (x0_ : Option Addr) (w : World) (K : Value → World → Prop) : Prop :=
  cnd x0_.isNone
  (K (.int .i64 0) w)
  (∃ a1 : Addr, x0_ = some a1 ∧ ∃ x2_p : Option Addr, ∃ x2_n : Nat, ∃ x2_c : Nat, w.cell? (a1.add 0) = some (.slice x2_p x2_n x2_c) ∧ 
    K (.int .i64 (x2_n : Int)) w)
theorem aig_Aig_Len.eq (x0_ : Option Addr) (w : World) (K : Value → World → Prop) : wpF Try.prog Try.f29 .leaf [.pointer x0_] w K = aig_Aig_Len.w x0_ w K := by kernel_rfl
theorem aig_Aig_Len.ok : fnOk Try.prog Try.f29 1 = true := by kernel_rfl
theorem aig_Aig_Len.calls {x0_ : Option Addr} {w : World} {R : Ending → World → Prop} (h : aig_Aig_Len.w x0_ w fun v w' => R (.returned v) w') : Calls Try.prog 29 #[.pointer x0_] w R :=
  calls_of mixed Try.func29 aig_Aig_Len.ok rfl (fun K => aig_Aig_Len.eq x0_ w K) h

/-! ### fathom/rank.Edges: function 30 (named slots 12) -/
def rank_Edges.w (x0_ : Option Addr) (reach__p : Option Addr) (reach__n : Nat) (reach__c : Nat) (edges__p : Option Addr) (edges__n : Nat) (edges__c : Nat) (w : World) (K : Value → World → Prop) : Prop :=
  Calls Try.prog 61 #[.pointer x0_, .slice reach__p reach__n reach__c] w fun e w1 => ∃ r2 : Bool, e = .returned (.bool r2) ∧ 
  cnd (!r2)
  (K (.slice none 0 0) w1)
  (Calls Try.prog 61 #[.pointer x0_, .slice edges__p edges__n edges__c] w1 fun e w3 => ∃ r4 : Bool, e = .returned (.bool r4) ∧ 
  cnd (!r4)
  (K (.slice none 0 0) w3)
  (cnd ((reach__n : Int) != (edges__n : Int))
  (K (.slice none 0 0) w3)
  (∃ I5 : Option Addr → Nat → Nat → Int → World → Nat → Prop, (∃ k6, I5 none 0 0 0 w3 k6) ∧
    ∀ (out_8_p : Option Addr) (out_8_n : Nat) (out_8_c : Nat) (v9 : Int) (w10 : World) (k6 : Nat) (_ : Fr), I5 out_8_p out_8_n out_8_c v9 w10 k6 →
    cnd (decide (v9 < (edges__n : Int)))
      (ixK edges__p edges__n v9 1 fun a11 =>
        ∃ x12_p : Option Addr, ∃ x12_n : Nat, ∃ x12_c : Nat, w10.cell? a11 = some (.slice x12_p x12_n x12_c) ∧ 
        ∃ I13 : Option Addr → Nat → Nat → Int → World → Nat → Prop, (∃ k14, I13 out_8_p out_8_n out_8_c 0 w10 k14) ∧
        ∀ (out_16_p : Option Addr) (out_16_n : Nat) (out_16_c : Nat) (v17 : Int) (w18 : World) (k14 : Nat) (_ : Fr), I13 out_16_p out_16_n out_16_c v17 w18 k14 →
        cnd (decide (v17 < (x12_n : Int)))
          (ixK x12_p x12_n v17 1 fun a19 =>
            ∃ x20 : Int, w18.cell? a19 = some (.int .i64 x20) ∧ 
            cnd (x20 != (0 : Int))
            (ixK reach__p reach__n v9 1 fun a21 =>
              ∃ x22_p : Option Addr, ∃ x22_n : Nat, ∃ x22_c : Nat, w18.cell? a21 = some (.slice x22_p x22_n x22_c) ∧ 
              ixK x22_p x22_n v17 1 fun a23 =>
              ∃ x24 : Int, w18.cell? a23 = some (.int .i64 x24) ∧ 
              ∀ (n25 : Nat) (w26 : World), New (.cells #[.int .i64 (IntKind.i64.wrap ((BitVec.ofInt (IntKind.bits .i64) x20 ^^^ BitVec.ofInt (IntKind.bits .i64) (1 : Int)).toNat)), .int .i64 x24] 3) w18 n25 w26 → 
              ∀ (n27 : Nat) (w28 : World), New (.cells #[.slice (some (Addr.mk n25 0 none)) 2 2] 24) w26 n27 w28 → 
              ∃ w29 : World, ∃ r30_p : Option Addr, ∃ r30_n : Nat, ∃ r30_c : Nat, (Builtin.append_ #[34, 34] 34 #[.slice out_16_p out_16_n out_16_c, .slice (some (Addr.mk n27 0 none)) 1 1]).run Try.prog w28 = .ok (.slice r30_p r30_n r30_c) w29 ∧ 
              ∃ k15, k15 < k14 ∧ I13 r30_p r30_n r30_c (IntKind.i64.wrap (v17 + (1 : Int))) w29 k15)
            (∃ k15, k15 < k14 ∧ I13 out_16_p out_16_n out_16_c (IntKind.i64.wrap (v17 + (1 : Int))) w18 k15))
          (∃ k7, k7 < k6 ∧ I5 out_16_p out_16_n out_16_c (IntKind.i64.wrap (v9 + (1 : Int))) w18 k7))
      (K (.slice out_8_p out_8_n out_8_c) w10))))
theorem rank_Edges.eq (x0_ : Option Addr) (reach__p : Option Addr) (reach__n : Nat) (reach__c : Nat) (edges__p : Option Addr) (edges__n : Nat) (edges__c : Nat) (w : World) (K : Value → World → Prop) : wpF Try.prog Try.f30 (.two .leaf (.two .leaf (.two .leaf (.two (.two .leaf (.one (.loop [(7, 34), (31, 3)] (.two .leaf (.two .leaf (.two (.one (.two .leaf (.two .leaf (.one (.loop [(7, 34), (38, 3)] .leaf))))) .leaf)))))) .leaf)))) [.pointer x0_, .slice reach__p reach__n reach__c, .slice edges__p edges__n edges__c] w K = rank_Edges.w x0_ reach__p reach__n reach__c edges__p edges__n edges__c w K := by kernel_rfl
theorem rank_Edges.ok : fnOk Try.prog Try.f30 3 = true := by kernel_rfl
theorem rank_Edges.calls {x0_ : Option Addr} {reach__p : Option Addr} {reach__n : Nat} {reach__c : Nat} {edges__p : Option Addr} {edges__n : Nat} {edges__c : Nat} {w : World} {R : Ending → World → Prop} (h : rank_Edges.w x0_ reach__p reach__n reach__c edges__p edges__n edges__c w fun v w' => R (.returned v) w') : Calls Try.prog 30 #[.pointer x0_, .slice reach__p reach__n reach__c, .slice edges__p edges__n edges__c] w R :=
  calls_of mixed Try.func30 rank_Edges.ok rfl (fun K => rank_Edges.eq x0_ reach__p reach__n reach__c edges__p edges__n edges__c w K) h

/-! ### fathom/fathomref18.Asked: function 31 (named slots 10) -/
def fathomref18_Asked.w (g__p : Option Addr) (g__n : Nat) (g__c : Nat) (clauses__p : Option Addr) (clauses__n : Nat) (clauses__c : Nat) (ins__p : Option Addr) (ins__n : Nat) (ins__c : Nat) (w : World) (K : Value → World → Prop) : Prop :=
  ∃ I1 : Int → World → Nat → Prop, (∃ k2, I1 0 w k2) ∧
  ∀ (i_4 : Int) (w5 : World) (k2 : Nat) (_ : Fr), I1 i_4 w5 k2 →
  cnd (decide (i_4 < (clauses__n : Int)))
    (∃ I6 : Bool → Int → World → Nat → Prop, (∃ k7, I6 false 0 w5 k7) ∧
      ∀ (some_9 : Bool) (k_10 : Int) (w11 : World) (k7 : Nat) (_ : Fr), I6 some_9 k_10 w11 k7 →
      ixK clauses__p clauses__n i_4 1 fun a12 =>
        ∃ x13_p : Option Addr, ∃ x13_n : Nat, ∃ x13_c : Nat, w11.cell? a12 = some (.slice x13_p x13_n x13_c) ∧ 
        cnd (decide (k_10 < (x13_n : Int)))
        (cnd some_9
          (∃ k8, k8 < k7 ∧ I6 true (IntKind.i64.wrap (k_10 + (1 : Int))) w11 k8)
          (ixK clauses__p clauses__n i_4 1 fun a14 =>
          ∃ x15_p : Option Addr, ∃ x15_n : Nat, ∃ x15_c : Nat, w11.cell? a14 = some (.slice x15_p x15_n x15_c) ∧ 
          ixK x15_p x15_n k_10 1 fun a16 =>
          ∃ x17 : Int, w11.cell? a16 = some (.int .i64 x17) ∧ 
          Calls Try.prog 36 #[.slice g__p g__n g__c, .slice ins__p ins__n ins__c, .int .i64 x17] w11 fun e w18 => ∃ r19 : Bool, e = .returned (.bool r19) ∧ 
          ∃ k8, k8 < k7 ∧ I6 r19 (IntKind.i64.wrap (k_10 + (1 : Int))) w18 k8))
        (cnd (!some_9)
          (K (.bool false) w11)
          (∃ k3, k3 < k2 ∧ I1 (IntKind.i64.wrap (i_4 + (1 : Int))) w11 k3)))
    (K (.bool true) w5)
theorem fathomref18_Asked.eq (g__p : Option Addr) (g__n : Nat) (g__c : Nat) (clauses__p : Option Addr) (clauses__n : Nat) (clauses__c : Nat) (ins__p : Option Addr) (ins__n : Nat) (ins__c : Nat) (w : World) (K : Value → World → Prop) : wpF Try.prog Try.f31 (.two .leaf (.two (.two .leaf (.one (.loop [(7, 3)] (.two .leaf (.two (.one (.two .leaf (.two (.two .leaf (.one (.loop [(8, 4), (9, 3)] .leaf))) .leaf))) .leaf))))) .leaf)) [.slice g__p g__n g__c, .slice clauses__p clauses__n clauses__c, .slice ins__p ins__n ins__c] w K = fathomref18_Asked.w g__p g__n g__c clauses__p clauses__n clauses__c ins__p ins__n ins__c w K := by kernel_rfl
theorem fathomref18_Asked.ok : fnOk Try.prog Try.f31 3 = true := by kernel_rfl
theorem fathomref18_Asked.calls {g__p : Option Addr} {g__n : Nat} {g__c : Nat} {clauses__p : Option Addr} {clauses__n : Nat} {clauses__c : Nat} {ins__p : Option Addr} {ins__n : Nat} {ins__c : Nat} {w : World} {R : Ending → World → Prop} (h : fathomref18_Asked.w g__p g__n g__c clauses__p clauses__n clauses__c ins__p ins__n ins__c w fun v w' => R (.returned v) w') : Calls Try.prog 31 #[.slice g__p g__n g__c, .slice clauses__p clauses__n clauses__c, .slice ins__p ins__n ins__c] w R :=
  calls_of mixed Try.func31 fathomref18_Asked.ok rfl (fun K => fathomref18_Asked.eq g__p g__n g__c clauses__p clauses__n clauses__c ins__p ins__n ins__c w K) h

/-! ### (*fathom/aig.Aig).Nodes: function 32 (named slots 3) -/
def aig_Aig_Nodes.w (x0_ : Option Addr) (w : World) (K : Value → World → Prop) : Prop :=
  cnd x0_.isNone
  (K (.slice none 0 0) w)
  (∃ a1 : Addr, x0_ = some a1 ∧ ∃ x2_p : Option Addr, ∃ x2_n : Nat, ∃ x2_c : Nat, w.cell? (a1.add 0) = some (.slice x2_p x2_n x2_c) ∧ 
    Calls Try.prog 62 #[.slice x2_p x2_n x2_c] w fun e w3 => ∃ r4_p : Option Addr, ∃ r4_n : Nat, ∃ r4_c : Nat, e = .returned (.slice r4_p r4_n r4_c) ∧ 
    K (.slice r4_p r4_n r4_c) w3)
theorem aig_Aig_Nodes.eq (x0_ : Option Addr) (w : World) (K : Value → World → Prop) : wpF Try.prog Try.f32 .leaf [.pointer x0_] w K = aig_Aig_Nodes.w x0_ w K := by kernel_rfl
theorem aig_Aig_Nodes.ok : fnOk Try.prog Try.f32 1 = true := by kernel_rfl
theorem aig_Aig_Nodes.calls {x0_ : Option Addr} {w : World} {R : Ending → World → Prop} (h : aig_Aig_Nodes.w x0_ w fun v w' => R (.returned v) w') : Calls Try.prog 32 #[.pointer x0_] w R :=
  calls_of mixed Try.func32 aig_Aig_Nodes.ok rfl (fun K => aig_Aig_Nodes.eq x0_ w K) h

/-! ### fathom/fathomref15.True: function 36 (named slots 11) -/
def fathomref15_True.w (g__p : Option Addr) (g__n : Nat) (g__c : Nat) (ins__p : Option Addr) (ins__n : Nat) (ins__c : Nat) (l_ : Int) (w : World) (K : Value → World → Prop) : Prop :=
  cnd (decide (l_ < (2 : Int)))
  (K (.bool (l_ == (1 : Int))) w)
  ((2 : Int) ≠ 0 ∧ ixK g__p g__n (IntKind.i64.wrap ((IntKind.i64.wrap (l_.tdiv (2 : Int))) - (1 : Int))) 2 fun a1 =>
    ∃ x2 : Int, ∃ x3 : Int, CellsAt w a1 0 [.int .i64 x2, .int .i64 x3] ∧ 
    ∀ (n4 : Nat) (w5 : World), New (.cells #[.int .i64 0, .int .i64 0] 76) w n4 w5 → 
    ∃ w6 : World, StoreAt (Addr.mk n4 0 none) 0 [.int .i64 x2, .int .i64 x3] w5 w6 ∧ 
    ∃ x7 : Int, w6.cell? ((Addr.mk n4 0 none).add 0) = some (.int .i64 x7) ∧ 
    cnd (decide (x7 ≥ (0 : Int)))
    (∃ x8 : Int, w6.cell? ((Addr.mk n4 0 none).add 0) = some (.int .i64 x8) ∧ 
      Calls Try.prog 36 #[.slice g__p g__n g__c, .slice ins__p ins__n ins__c, .int .i64 x8] w6 fun e w9 => ∃ r10 : Bool, e = .returned (.bool r10) ∧ 
      cnd r10
      (∃ x11 : Int, w9.cell? ((Addr.mk n4 0 none).add 1) = some (.int .i64 x11) ∧ 
      Calls Try.prog 36 #[.slice g__p g__n g__c, .slice ins__p ins__n ins__c, .int .i64 x11] w9 fun e w12 => ∃ r13 : Bool, e = .returned (.bool r13) ∧ 
      (2 : Int) ≠ 0 ∧ K (.bool (!(r13 == ((l_.tmod (2 : Int)) == (1 : Int))))) w12)
      ((2 : Int) ≠ 0 ∧ K (.bool (!(false == ((l_.tmod (2 : Int)) == (1 : Int))))) w9))
    (∃ I14 : Int → Int → World → Nat → Prop, (∃ k15, I14 0 0 w6 k15) ∧
      ∀ (k_17 : Int) (i_18 : Int) (w19 : World) (k15 : Nat) (_ : Fr), I14 k_17 i_18 w19 k15 →
      (2 : Int) ≠ 0 ∧ cnd (decide (i_18 < (IntKind.i64.wrap ((IntKind.i64.wrap (l_.tdiv (2 : Int))) - (1 : Int)))))
        (ixK g__p g__n i_18 2 fun a20 =>
          ∃ x21 : Int, w19.cell? (a20.add 0) = some (.int .i64 x21) ∧ 
          cnd (decide (x21 < (0 : Int)))
          (∃ k16, k16 < k15 ∧ I14 (IntKind.i64.wrap (k_17 + (1 : Int))) (IntKind.i64.wrap (i_18 + (1 : Int))) w19 k16)
          (∃ k16, k16 < k15 ∧ I14 k_17 (IntKind.i64.wrap (i_18 + (1 : Int))) w19 k16))
        (cnd (decide (k_17 < (ins__n : Int)))
          (ixK ins__p ins__n k_17 1 fun a22 =>
          ∃ x23 : Bool, w19.cell? a22 = some (.bool x23) ∧ 
          (2 : Int) ≠ 0 ∧ K (.bool (!(x23 == ((l_.tmod (2 : Int)) == (1 : Int))))) w19)
          ((2 : Int) ≠ 0 ∧ K (.bool (!(false == ((l_.tmod (2 : Int)) == (1 : Int))))) w19))))
theorem fathomref15_True.eq (g__p : Option Addr) (g__n : Nat) (g__c : Nat) (ins__p : Option Addr) (ins__n : Nat) (ins__c : Nat) (l_ : Int) (w : World) (K : Value → World → Prop) : wpF Try.prog Try.f36 (.two .leaf (.two .leaf (.two .leaf (.two .leaf (.two (.two .leaf (.two .leaf (.two .leaf (.two (.two .leaf (.one (.loop [(9, 3), (10, 3)] .leaf))) .leaf)))) .leaf))))) [.slice g__p g__n g__c, .slice ins__p ins__n ins__c, .int .i64 l_] w K = fathomref15_True.w g__p g__n g__c ins__p ins__n ins__c l_ w K := by kernel_rfl
theorem fathomref15_True.ok : fnOk Try.prog Try.f36 3 = true := by kernel_rfl
theorem fathomref15_True.calls {g__p : Option Addr} {g__n : Nat} {g__c : Nat} {ins__p : Option Addr} {ins__n : Nat} {ins__c : Nat} {l_ : Int} {w : World} {R : Ending → World → Prop} (h : fathomref15_True.w g__p g__n g__c ins__p ins__n ins__c l_ w fun v w' => R (.returned v) w') : Calls Try.prog 36 #[.slice g__p g__n g__c, .slice ins__p ins__n ins__c, .int .i64 l_] w R :=
  calls_of mixed Try.func36 fathomref15_True.ok rfl (fun K => fathomref15_True.eq g__p g__n g__c ins__p ins__n ins__c l_ w K) h

/-! ### (*fathom/aig.Aig).In: function 41 (named slots 3) -/
def aig_Aig_In.w (x0_ : Option Addr) (w : World) (K : Value → World → Prop) : Prop :=
  cnd x0_.isNone
  (K (.int .i64 (-1)) w)
  (∃ a1 : Addr, x0_ = some a1 ∧ ∃ x2 : Option Nat, w.cell? (a1.add 1) = some (.map x2) ∧ 
  ∃ w3 : World, ∃ r4 : Bool, (do eqGuard .eql 89 (.tmp 9) (.const (.map none)) (.map x2) (.map none); binOp .eql 89 (.map x2) (.map none)).run Try.prog w = .ok (.bool r4) w3 ∧ 
  cnd r4
  (K (.int .i64 (-1)) w3)
  (Calls Try.prog 72 #[] w3 fun e w5 => ∃ r6 : Int, ∃ r7 : Int, e = .returned (.agg #[.int .i64 r6, .int .i64 r7]) ∧ 
    Calls Try.prog 71 #[.pointer x0_, .agg #[.int .i64 r6, .int .i64 r7]] w5 fun e w8 => ∃ r9 : Int, e = .returned (.int .i64 r9) ∧ 
    K (.int .i64 r9) w8))
theorem aig_Aig_In.eq (x0_ : Option Addr) (w : World) (K : Value → World → Prop) : wpF Try.prog Try.f41 .leaf [.pointer x0_] w K = aig_Aig_In.w x0_ w K := by kernel_rfl
theorem aig_Aig_In.ok : fnOk Try.prog Try.f41 1 = true := by kernel_rfl
theorem aig_Aig_In.calls {x0_ : Option Addr} {w : World} {R : Ending → World → Prop} (h : aig_Aig_In.w x0_ w fun v w' => R (.returned v) w') : Calls Try.prog 41 #[.pointer x0_] w R :=
  calls_of mixed Try.func41 aig_Aig_In.ok rfl (fun K => aig_Aig_In.eq x0_ w K) h

/-! ### fathom/rank.Order: function 42 (named slots 11) -/
def rank_Order.w (x0_ : Option Addr) (n_ : Int) (w : World) (K : Value → World → Prop) : Prop :=
  cnd (decide (n_ < (0 : Int)))
  (K (.tuple #[.slice none 0 0, .slice none 0 0]) w)
  (cnd (decide (n_ > (40 : Int)))
  (K (.tuple #[.slice none 0 0, .slice none 0 0]) w)
  ((2 : Int) ≠ 0 ∧ Calls Try.prog 59 #[.pointer x0_, .int .i64 (IntKind.i64.wrap ((IntKind.i64.wrap (n_ * (IntKind.i64.wrap (n_ - (1 : Int))))).tdiv (2 : Int)))] w fun e w1 => ∃ r2 : Bool, e = .returned (.bool r2) ∧ 
  cnd (!r2)
  (K (.tuple #[.slice none 0 0, .slice none 0 0]) w1)
  (Calls Try.prog 60 #[.int .i64 n_] w1 fun e w3 => ∃ r4_p : Option Addr, ∃ r4_n : Nat, ∃ r4_c : Nat, e = .returned (.slice r4_p r4_n r4_c) ∧ 
    ∃ I5 : Int → World → Nat → Prop, (∃ k6, I5 0 w3 k6) ∧
    ∀ (v8 : Int) (w9 : World) (k6 : Nat) (_ : Fr), I5 v8 w9 k6 →
    cnd (decide (v8 < n_))
      (∃ I10 : Int → World → Nat → Prop, (∃ k11, I10 (IntKind.i64.wrap (v8 + (1 : Int))) w9 k11) ∧
        ∀ (j_13 : Int) (w14 : World) (k11 : Nat) (_ : Fr), I10 j_13 w14 k11 →
        cnd (decide (j_13 < n_))
          (ixK r4_p r4_n v8 1 fun a15 =>
            (∃ x16_p : Option Addr, ∃ x16_n : Nat, ∃ x16_c : Nat, w14.drew.cell? a15 = some (.slice x16_p x16_n x16_c) ∧ 
            Calls Try.prog 41 #[.pointer x0_] w14.drew fun e w17 => ∃ r18 : Int, e = .returned (.int .i64 r18) ∧ 
            ixK x16_p x16_n j_13 1 fun a19 =>
            ∃ w20 : World, StoreAt a19 0 [.int .i64 r18] w17 w20 ∧ 
            ixK r4_p r4_n j_13 1 fun a21 =>
            ∃ x22_p : Option Addr, ∃ x22_n : Nat, ∃ x22_c : Nat, w20.drew.cell? a21 = some (.slice x22_p x22_n x22_c) ∧ 
            ixK r4_p r4_n v8 1 fun a23 =>
            ∃ x24_p : Option Addr, ∃ x24_n : Nat, ∃ x24_c : Nat, w20.drew.cell? a23 = some (.slice x24_p x24_n x24_c) ∧ 
            ixK x24_p x24_n j_13 1 fun a25 =>
            ∃ x26 : Int, w20.drew.cell? a25 = some (.int .i64 x26) ∧ 
            ixK x22_p x22_n v8 1 fun a27 =>
            ∃ w28 : World, StoreAt a27 0 [.int .i64 (IntKind.i64.wrap ((BitVec.ofInt (IntKind.bits .i64) x26 ^^^ BitVec.ofInt (IntKind.bits .i64) (1 : Int)).toNat))] w20.drew w28 ∧ 
            ∃ k12, k12 < k11 ∧ I10 (IntKind.i64.wrap (j_13 + (1 : Int))) w28 k12) ∧
          (Calls Try.prog 41 #[.pointer x0_] w14.drew fun e w29 => ∃ r30 : Int, e = .returned (.int .i64 r30) ∧ 
            ∃ x31_p : Option Addr, ∃ x31_n : Nat, ∃ x31_c : Nat, w29.cell? a15 = some (.slice x31_p x31_n x31_c) ∧ 
            ixK x31_p x31_n j_13 1 fun a32 =>
            ∃ w33 : World, StoreAt a32 0 [.int .i64 r30] w29 w33 ∧ 
            ixK r4_p r4_n j_13 1 fun a34 =>
            ∃ x35_p : Option Addr, ∃ x35_n : Nat, ∃ x35_c : Nat, w33.drew.cell? a34 = some (.slice x35_p x35_n x35_c) ∧ 
            ixK r4_p r4_n v8 1 fun a36 =>
            ∃ x37_p : Option Addr, ∃ x37_n : Nat, ∃ x37_c : Nat, w33.drew.cell? a36 = some (.slice x37_p x37_n x37_c) ∧ 
            ixK x37_p x37_n j_13 1 fun a38 =>
            ∃ x39 : Int, w33.drew.cell? a38 = some (.int .i64 x39) ∧ 
            ixK x35_p x35_n v8 1 fun a40 =>
            ∃ w41 : World, StoreAt a40 0 [.int .i64 (IntKind.i64.wrap ((BitVec.ofInt (IntKind.bits .i64) x39 ^^^ BitVec.ofInt (IntKind.bits .i64) (1 : Int)).toNat))] w33.drew w41 ∧ 
            ∃ k12, k12 < k11 ∧ I10 (IntKind.i64.wrap (j_13 + (1 : Int))) w41 k12))
          (∃ k7, k7 < k6 ∧ I5 (IntKind.i64.wrap (v8 + (1 : Int))) w14 k7))
      (∃ I42 : Option Addr → Nat → Nat → Int → World → Nat → Prop, (∃ k43, I42 none 0 0 0 w9 k43) ∧
        ∀ (must_45_p : Option Addr) (must_45_n : Nat) (must_45_c : Nat) (v46 : Int) (w47 : World) (k43 : Nat) (_ : Fr), I42 must_45_p must_45_n must_45_c v46 w47 k43 →
        cnd (decide (v46 < n_))
          (∃ I48 : Option Addr → Nat → Nat → Int → World → Nat → Prop, (∃ k49, I48 must_45_p must_45_n must_45_c 0 w47 k49) ∧
            ∀ (must_51_p : Option Addr) (must_51_n : Nat) (must_51_c : Nat) (v52 : Int) (w53 : World) (k49 : Nat) (_ : Fr), I48 must_51_p must_51_n must_51_c v52 w53 k49 →
            cnd (decide (v52 < n_))
              (∃ I54 : Option Addr → Nat → Nat → Int → World → Nat → Prop, (∃ k55, I54 must_51_p must_51_n must_51_c 0 w53 k55) ∧
                ∀ (must_57_p : Option Addr) (must_57_n : Nat) (must_57_c : Nat) (v58 : Int) (w59 : World) (k55 : Nat) (_ : Fr), I54 must_57_p must_57_n must_57_c v58 w59 k55 →
                cnd (decide (v58 < n_))
                  (cnd (v46 != v52)
                    (cnd (v52 != v58)
                    (cnd (v46 != v58)
                    (ixK r4_p r4_n v46 1 fun a60 =>
                      ∃ x61_p : Option Addr, ∃ x61_n : Nat, ∃ x61_c : Nat, w59.drew.cell? a60 = some (.slice x61_p x61_n x61_c) ∧ 
                      ixK x61_p x61_n v52 1 fun a62 =>
                      ∃ x63 : Int, w59.drew.cell? a62 = some (.int .i64 x63) ∧ 
                      ixK r4_p r4_n v52 1 fun a64 =>
                      ∃ x65_p : Option Addr, ∃ x65_n : Nat, ∃ x65_c : Nat, w59.drew.cell? a64 = some (.slice x65_p x65_n x65_c) ∧ 
                      ixK x65_p x65_n v58 1 fun a66 =>
                      ∃ x67 : Int, w59.drew.cell? a66 = some (.int .i64 x67) ∧ 
                      ixK r4_p r4_n v46 1 fun a68 =>
                      ∃ x69_p : Option Addr, ∃ x69_n : Nat, ∃ x69_c : Nat, w59.drew.cell? a68 = some (.slice x69_p x69_n x69_c) ∧ 
                      ixK x69_p x69_n v58 1 fun a70 =>
                      ∃ x71 : Int, w59.drew.cell? a70 = some (.int .i64 x71) ∧ 
                      ∀ (n72 : Nat) (w73 : World), New (.cells #[.int .i64 (IntKind.i64.wrap ((BitVec.ofInt (IntKind.bits .i64) x63 ^^^ BitVec.ofInt (IntKind.bits .i64) (1 : Int)).toNat)), .int .i64 (IntKind.i64.wrap ((BitVec.ofInt (IntKind.bits .i64) x67 ^^^ BitVec.ofInt (IntKind.bits .i64) (1 : Int)).toNat)), .int .i64 x71] 3) w59.drew n72 w73 → 
                      ∀ (n74 : Nat) (w75 : World), New (.cells #[.slice (some (Addr.mk n72 0 none)) 3 3] 24) w73 n74 w75 → 
                      ∃ w76 : World, ∃ r77_p : Option Addr, ∃ r77_n : Nat, ∃ r77_c : Nat, (Builtin.append_ #[34, 34] 34 #[.slice must_57_p must_57_n must_57_c, .slice (some (Addr.mk n74 0 none)) 1 1]).run Try.prog w75 = .ok (.slice r77_p r77_n r77_c) w76 ∧ 
                      ∃ k56, k56 < k55 ∧ I54 r77_p r77_n r77_c (IntKind.i64.wrap (v58 + (1 : Int))) w76 k56)
                    (∃ k56, k56 < k55 ∧ I54 must_57_p must_57_n must_57_c (IntKind.i64.wrap (v58 + (1 : Int))) w59 k56))
                    (∃ k56, k56 < k55 ∧ I54 must_57_p must_57_n must_57_c (IntKind.i64.wrap (v58 + (1 : Int))) w59 k56))
                    (∃ k56, k56 < k55 ∧ I54 must_57_p must_57_n must_57_c (IntKind.i64.wrap (v58 + (1 : Int))) w59 k56))
                  (∃ k50, k50 < k49 ∧ I48 must_57_p must_57_n must_57_c (IntKind.i64.wrap (v52 + (1 : Int))) w59 k50))
              (∃ k44, k44 < k43 ∧ I42 must_51_p must_51_n must_51_c (IntKind.i64.wrap (v46 + (1 : Int))) w53 k44))
          (K (.tuple #[.slice r4_p r4_n r4_c, .slice must_45_p must_45_n must_45_c]) w47)))))
theorem rank_Order.eq (x0_ : Option Addr) (n_ : Int) (w : World) (K : Value → World → Prop) : wpF Try.prog Try.f42 (.two .leaf (.two .leaf (.two .leaf (.two (.two .leaf (.one (.loop [(30, 3)] (.two .leaf (.two .leaf (.two (.one (.two .leaf (.two .leaf (.one (.loop [(7, 3)] .leaf))))) .leaf)))))) (.two (.two .leaf (.one (.loop [(5, 34), (64, 3)] (.two .leaf (.two .leaf (.two (.one (.two .leaf (.two .leaf (.one (.loop [(5, 34), (68, 3)] (.two .leaf (.two .leaf (.two (.one (.two .leaf (.two .leaf (.one (.loop [(5, 34), (72, 3)] .leaf))))) .leaf)))))))) .leaf)))))) .leaf))))) [.pointer x0_, .int .i64 n_] w K = rank_Order.w x0_ n_ w K := by kernel_rfl
theorem rank_Order.ok : fnOk Try.prog Try.f42 2 = true := by kernel_rfl
theorem rank_Order.calls {x0_ : Option Addr} {n_ : Int} {w : World} {R : Ending → World → Prop} (h : rank_Order.w x0_ n_ w fun v w' => R (.returned v) w') : Calls Try.prog 42 #[.pointer x0_, .int .i64 n_] w R :=
  calls_of mixed Try.func42 rank_Order.ok rfl (fun K => rank_Order.eq x0_ n_ w K) h

/-! ### fathom/rank.Places: function 43 (named slots 10) -/
def rank_Places.w (x0_ : Option Addr) (ahead__p : Option Addr) (ahead__n : Nat) (ahead__c : Nat) (w : World) (K : Value → World → Prop) : Prop :=
  Calls Try.prog 61 #[.pointer x0_, .slice ahead__p ahead__n ahead__c] w fun e w1 => ∃ r2 : Bool, e = .returned (.bool r2) ∧ 
  cnd (!r2)
  (K (.slice none 0 0) w1)
  (∃ I3 : Option Addr → Nat → Nat → Int → World → Nat → Prop, (∃ k4, I3 none 0 0 0 w1 k4) ∧
    ∀ (out_6_p : Option Addr) (out_6_n : Nat) (out_6_c : Nat) (v7 : Int) (w8 : World) (k4 : Nat) (_ : Fr), I3 out_6_p out_6_n out_6_c v7 w8 k4 →
    cnd (decide (v7 < (ahead__n : Int)))
      (∃ I9 : Option Addr → Nat → Nat → Int → World → Nat → Prop, (∃ k10, I9 none 0 0 0 w8 k10) ∧
        ∀ (l_12_p : Option Addr) (l_12_n : Nat) (l_12_c : Nat) (v13 : Int) (w14 : World) (k10 : Nat) (_ : Fr), I9 l_12_p l_12_n l_12_c v13 w14 k10 →
        cnd (decide (v13 < (ahead__n : Int)))
          (cnd (v13 != v7)
            (ixK ahead__p ahead__n v13 1 fun a15 =>
              ∃ x16_p : Option Addr, ∃ x16_n : Nat, ∃ x16_c : Nat, w14.cell? a15 = some (.slice x16_p x16_n x16_c) ∧ 
              ixK x16_p x16_n v7 1 fun a17 =>
              ∃ x18 : Int, w14.cell? a17 = some (.int .i64 x18) ∧ 
              ∀ (n19 : Nat) (w20 : World), New (.cells #[.int .i64 x18] 3) w14 n19 w20 → 
              ∃ w21 : World, ∃ r22_p : Option Addr, ∃ r22_n : Nat, ∃ r22_c : Nat, (Builtin.append_ #[24, 24] 24 #[.slice l_12_p l_12_n l_12_c, .slice (some (Addr.mk n19 0 none)) 1 1]).run Try.prog w20 = .ok (.slice r22_p r22_n r22_c) w21 ∧ 
              ∃ k11, k11 < k10 ∧ I9 r22_p r22_n r22_c (IntKind.i64.wrap (v13 + (1 : Int))) w21 k11)
            (∃ k11, k11 < k10 ∧ I9 l_12_p l_12_n l_12_c (IntKind.i64.wrap (v13 + (1 : Int))) w14 k11))
          (Calls Try.prog 73 #[.pointer x0_, .slice l_12_p l_12_n l_12_c] w14 fun e w23 => ∃ r24_p : Option Addr, ∃ r24_n : Nat, ∃ r24_c : Nat, e = .returned (.slice r24_p r24_n r24_c) ∧ 
            cnd r24_p.isNone
            (K (.slice none 0 0) w23)
            (∀ (n25 : Nat) (w26 : World), New (.cells #[.slice r24_p r24_n r24_c] 24) w23 n25 w26 → 
              ∃ w27 : World, ∃ r28_p : Option Addr, ∃ r28_n : Nat, ∃ r28_c : Nat, (Builtin.append_ #[34, 34] 34 #[.slice out_6_p out_6_n out_6_c, .slice (some (Addr.mk n25 0 none)) 1 1]).run Try.prog w26 = .ok (.slice r28_p r28_n r28_c) w27 ∧ 
              ∃ k5, k5 < k4 ∧ I3 r28_p r28_n r28_c (IntKind.i64.wrap (v7 + (1 : Int))) w27 k5)))
      (K (.slice out_6_p out_6_n out_6_c) w8))
theorem rank_Places.eq (x0_ : Option Addr) (ahead__p : Option Addr) (ahead__n : Nat) (ahead__c : Nat) (w : World) (K : Value → World → Prop) : wpF Try.prog Try.f43 (.two .leaf (.two .leaf (.two .leaf (.two (.two .leaf (.one (.loop [(5, 34), (16, 3)] (.two .leaf (.two .leaf (.two (.one (.two .leaf (.two .leaf (.two (.two .leaf (.one (.loop [(7, 24), (21, 3)] .leaf))) .leaf)))) .leaf)))))) .leaf)))) [.pointer x0_, .slice ahead__p ahead__n ahead__c] w K = rank_Places.w x0_ ahead__p ahead__n ahead__c w K := by kernel_rfl
theorem rank_Places.ok : fnOk Try.prog Try.f43 2 = true := by kernel_rfl
theorem rank_Places.calls {x0_ : Option Addr} {ahead__p : Option Addr} {ahead__n : Nat} {ahead__c : Nat} {w : World} {R : Ending → World → Prop} (h : rank_Places.w x0_ ahead__p ahead__n ahead__c w fun v w' => R (.returned v) w') : Calls Try.prog 43 #[.pointer x0_, .slice ahead__p ahead__n ahead__c] w R :=
  calls_of mixed Try.func43 rank_Places.ok rfl (fun K => rank_Places.eq x0_ ahead__p ahead__n ahead__c w K) h

/-! ### fathom/fathomref01.Has: function 44 (named slots 6) -/
def fathomref01_Has.w (l__p : Option Addr) (l__n : Nat) (l__c : Nat) (n_ : Int) (w : World) (K : Value → World → Prop) : Prop :=
  ∃ I1 : Int → World → Nat → Prop, (∃ k2, I1 0 w k2) ∧
  ∀ (i_4 : Int) (w5 : World) (k2 : Nat) (_ : Fr), I1 i_4 w5 k2 →
  cnd (decide (i_4 < (l__n : Int)))
    (ixK l__p l__n i_4 1 fun a6 =>
      ∃ x7 : Int, w5.cell? a6 = some (.int .i64 x7) ∧ 
      cnd (x7 == n_)
      (K (.bool true) w5)
      (∃ k3, k3 < k2 ∧ I1 (IntKind.i64.wrap (i_4 + (1 : Int))) w5 k3))
    (K (.bool false) w5)
theorem fathomref01_Has.eq (l__p : Option Addr) (l__n : Nat) (l__c : Nat) (n_ : Int) (w : World) (K : Value → World → Prop) : wpF Try.prog Try.f44 (.two .leaf (.two (.two .leaf (.one (.loop [(5, 3)] .leaf))) .leaf)) [.slice l__p l__n l__c, .int .i64 n_] w K = fathomref01_Has.w l__p l__n l__c n_ w K := by kernel_rfl
theorem fathomref01_Has.ok : fnOk Try.prog Try.f44 2 = true := by kernel_rfl
theorem fathomref01_Has.calls {l__p : Option Addr} {l__n : Nat} {l__c : Nat} {n_ : Int} {w : World} {R : Ending → World → Prop} (h : fathomref01_Has.w l__p l__n l__c n_ w fun v w' => R (.returned v) w') : Calls Try.prog 44 #[.slice l__p l__n l__c, .int .i64 n_] w R :=
  calls_of mixed Try.func44 fathomref01_Has.ok rfl (fun K => fathomref01_Has.eq l__p l__n l__c n_ w K) h

/-! ### fathom/aig.Eval: function 45 (named slots 9) -/
def aig_Eval.w (g__p : Option Addr) (g__n : Nat) (g__c : Nat) (ins__p : Option Addr) (ins__n : Nat) (ins__c : Nat) (w : World) (K : Value → World → Prop) : Prop :=
  Calls Try.prog 63 #[.slice g__p g__n g__c] w fun e w1 => ∃ r2 : Int, e = .returned (.int .i64 r2) ∧ 
  cnd (r2 != (0 : Int))
  (K (.slice none 0 0) w1)
  (∃ I3 : Option Addr → Nat → Nat → Int → Int → World → Nat → Prop, (∃ k4, I3 none 0 0 0 0 w1 k4) ∧
    ∀ (v_6_p : Option Addr) (v_6_n : Nat) (v_6_c : Nat) (k_7 : Int) (v8 : Int) (w9 : World) (k4 : Nat) (_ : Fr), I3 v_6_p v_6_n v_6_c k_7 v8 w9 k4 →
    cnd (decide (v8 < (g__n : Int)))
      (ixK g__p g__n v8 2 fun a10 =>
        ∃ x11 : Int, ∃ x12 : Int, CellsAt w9 a10 0 [.int .i64 x11, .int .i64 x12] ∧ 
        ∀ (n13 : Nat) (w14 : World), New (.cells #[.int .i64 0, .int .i64 0] 76) w9 n13 w14 → 
        ∃ w15 : World, StoreAt (Addr.mk n13 0 none) 0 [.int .i64 x11, .int .i64 x12] w14 w15 ∧ 
        (∃ x16 : Int, ∃ x17 : Int, CellsAt w15.drew (Addr.mk n13 0 none) 0 [.int .i64 x16, .int .i64 x17] ∧ 
        Calls Try.prog 72 #[] w15.drew fun e w18 => ∃ r19 : Int, ∃ r20 : Int, e = .returned (.agg #[.int .i64 r19, .int .i64 r20]) ∧ 
        ∃ w21 : World, ∃ r22 : Bool, (do eqGuard .eql 76 (.tmp 18) (.tmp 19) (.agg #[.int .i64 x16, .int .i64 x17]) (.agg #[.int .i64 r19, .int .i64 r20]); binOp .eql 76 (.agg #[.int .i64 x16, .int .i64 x17]) (.agg #[.int .i64 r19, .int .i64 r20])).run Try.prog w18 = .ok (.bool r22) w21 ∧ 
        cnd r22
        (cnd (decide (k_7 < (ins__n : Int)))
          (ixK ins__p ins__n k_7 1 fun a23 =>
          ∃ x24 : Bool, w21.cell? a23 = some (.bool x24) ∧ 
          ∀ (n25 : Nat) (w26 : World), New (.cells #[.bool x24] 4) w21 n25 w26 → 
          ∃ w27 : World, ∃ r28_p : Option Addr, ∃ r28_n : Nat, ∃ r28_c : Nat, (Builtin.append_ #[28, 28] 28 #[.slice v_6_p v_6_n v_6_c, .slice (some (Addr.mk n25 0 none)) 1 1]).run Try.prog w26 = .ok (.slice r28_p r28_n r28_c) w27 ∧ 
          ∃ k5, k5 < k4 ∧ I3 r28_p r28_n r28_c (IntKind.i64.wrap (k_7 + (1 : Int))) (IntKind.i64.wrap (v8 + (1 : Int))) w27 k5)
          (∀ (n29 : Nat) (w30 : World), New (.cells #[.bool false] 4) w21 n29 w30 → 
          ∃ w31 : World, ∃ r32_p : Option Addr, ∃ r32_n : Nat, ∃ r32_c : Nat, (Builtin.append_ #[28, 28] 28 #[.slice v_6_p v_6_n v_6_c, .slice (some (Addr.mk n29 0 none)) 1 1]).run Try.prog w30 = .ok (.slice r32_p r32_n r32_c) w31 ∧ 
          ∃ k5, k5 < k4 ∧ I3 r32_p r32_n r32_c (IntKind.i64.wrap (k_7 + (1 : Int))) (IntKind.i64.wrap (v8 + (1 : Int))) w31 k5))
        (∃ x33 : Int, w21.cell? ((Addr.mk n13 0 none).add 0) = some (.int .i64 x33) ∧ 
          Calls Try.prog 70 #[.slice v_6_p v_6_n v_6_c, .int .i64 x33] w21 fun e w34 => ∃ r35 : Bool, e = .returned (.bool r35) ∧ 
          cnd r35
          (∃ x36 : Int, w34.cell? ((Addr.mk n13 0 none).add 1) = some (.int .i64 x36) ∧ 
          Calls Try.prog 70 #[.slice v_6_p v_6_n v_6_c, .int .i64 x36] w34 fun e w37 => ∃ r38 : Bool, e = .returned (.bool r38) ∧ 
          ∀ (n39 : Nat) (w40 : World), New (.cells #[.bool r38] 4) w37 n39 w40 → 
          ∃ w41 : World, ∃ r42_p : Option Addr, ∃ r42_n : Nat, ∃ r42_c : Nat, (Builtin.append_ #[28, 28] 28 #[.slice v_6_p v_6_n v_6_c, .slice (some (Addr.mk n39 0 none)) 1 1]).run Try.prog w40 = .ok (.slice r42_p r42_n r42_c) w41 ∧ 
          ∃ k5, k5 < k4 ∧ I3 r42_p r42_n r42_c k_7 (IntKind.i64.wrap (v8 + (1 : Int))) w41 k5)
          (∀ (n43 : Nat) (w44 : World), New (.cells #[.bool false] 4) w34 n43 w44 → 
          ∃ w45 : World, ∃ r46_p : Option Addr, ∃ r46_n : Nat, ∃ r46_c : Nat, (Builtin.append_ #[28, 28] 28 #[.slice v_6_p v_6_n v_6_c, .slice (some (Addr.mk n43 0 none)) 1 1]).run Try.prog w44 = .ok (.slice r46_p r46_n r46_c) w45 ∧ 
          ∃ k5, k5 < k4 ∧ I3 r46_p r46_n r46_c k_7 (IntKind.i64.wrap (v8 + (1 : Int))) w45 k5))) ∧
      (Calls Try.prog 72 #[] w15.drew fun e w47 => ∃ r48 : Int, ∃ r49 : Int, e = .returned (.agg #[.int .i64 r48, .int .i64 r49]) ∧ 
        ∃ x50 : Int, ∃ x51 : Int, CellsAt w47 (Addr.mk n13 0 none) 0 [.int .i64 x50, .int .i64 x51] ∧ 
        ∃ w52 : World, ∃ r53 : Bool, (do eqGuard .eql 76 (.tmp 18) (.tmp 19) (.agg #[.int .i64 x50, .int .i64 x51]) (.agg #[.int .i64 r48, .int .i64 r49]); binOp .eql 76 (.agg #[.int .i64 x50, .int .i64 x51]) (.agg #[.int .i64 r48, .int .i64 r49])).run Try.prog w47 = .ok (.bool r53) w52 ∧ 
        cnd r53
        (cnd (decide (k_7 < (ins__n : Int)))
          (ixK ins__p ins__n k_7 1 fun a54 =>
          ∃ x55 : Bool, w52.cell? a54 = some (.bool x55) ∧ 
          ∀ (n56 : Nat) (w57 : World), New (.cells #[.bool x55] 4) w52 n56 w57 → 
          ∃ w58 : World, ∃ r59_p : Option Addr, ∃ r59_n : Nat, ∃ r59_c : Nat, (Builtin.append_ #[28, 28] 28 #[.slice v_6_p v_6_n v_6_c, .slice (some (Addr.mk n56 0 none)) 1 1]).run Try.prog w57 = .ok (.slice r59_p r59_n r59_c) w58 ∧ 
          ∃ k5, k5 < k4 ∧ I3 r59_p r59_n r59_c (IntKind.i64.wrap (k_7 + (1 : Int))) (IntKind.i64.wrap (v8 + (1 : Int))) w58 k5)
          (∀ (n60 : Nat) (w61 : World), New (.cells #[.bool false] 4) w52 n60 w61 → 
          ∃ w62 : World, ∃ r63_p : Option Addr, ∃ r63_n : Nat, ∃ r63_c : Nat, (Builtin.append_ #[28, 28] 28 #[.slice v_6_p v_6_n v_6_c, .slice (some (Addr.mk n60 0 none)) 1 1]).run Try.prog w61 = .ok (.slice r63_p r63_n r63_c) w62 ∧ 
          ∃ k5, k5 < k4 ∧ I3 r63_p r63_n r63_c (IntKind.i64.wrap (k_7 + (1 : Int))) (IntKind.i64.wrap (v8 + (1 : Int))) w62 k5))
        (∃ x64 : Int, w52.cell? ((Addr.mk n13 0 none).add 0) = some (.int .i64 x64) ∧ 
          Calls Try.prog 70 #[.slice v_6_p v_6_n v_6_c, .int .i64 x64] w52 fun e w65 => ∃ r66 : Bool, e = .returned (.bool r66) ∧ 
          cnd r66
          (∃ x67 : Int, w65.cell? ((Addr.mk n13 0 none).add 1) = some (.int .i64 x67) ∧ 
          Calls Try.prog 70 #[.slice v_6_p v_6_n v_6_c, .int .i64 x67] w65 fun e w68 => ∃ r69 : Bool, e = .returned (.bool r69) ∧ 
          ∀ (n70 : Nat) (w71 : World), New (.cells #[.bool r69] 4) w68 n70 w71 → 
          ∃ w72 : World, ∃ r73_p : Option Addr, ∃ r73_n : Nat, ∃ r73_c : Nat, (Builtin.append_ #[28, 28] 28 #[.slice v_6_p v_6_n v_6_c, .slice (some (Addr.mk n70 0 none)) 1 1]).run Try.prog w71 = .ok (.slice r73_p r73_n r73_c) w72 ∧ 
          ∃ k5, k5 < k4 ∧ I3 r73_p r73_n r73_c k_7 (IntKind.i64.wrap (v8 + (1 : Int))) w72 k5)
          (∀ (n74 : Nat) (w75 : World), New (.cells #[.bool false] 4) w65 n74 w75 → 
          ∃ w76 : World, ∃ r77_p : Option Addr, ∃ r77_n : Nat, ∃ r77_c : Nat, (Builtin.append_ #[28, 28] 28 #[.slice v_6_p v_6_n v_6_c, .slice (some (Addr.mk n74 0 none)) 1 1]).run Try.prog w75 = .ok (.slice r77_p r77_n r77_c) w76 ∧ 
          ∃ k5, k5 < k4 ∧ I3 r77_p r77_n r77_c k_7 (IntKind.i64.wrap (v8 + (1 : Int))) w76 k5))))
      (K (.slice v_6_p v_6_n v_6_c) w9))
theorem aig_Eval.eq (g__p : Option Addr) (g__n : Nat) (g__c : Nat) (ins__p : Option Addr) (ins__n : Nat) (ins__c : Nat) (w : World) (K : Value → World → Prop) : wpF Try.prog Try.f45 (.two .leaf (.two .leaf (.two .leaf (.two .leaf (.two (.two .leaf (.one (.loop [(5, 28), (6, 3), (14, 3)] .leaf))) .leaf))))) [.slice g__p g__n g__c, .slice ins__p ins__n ins__c] w K = aig_Eval.w g__p g__n g__c ins__p ins__n ins__c w K := by kernel_rfl
theorem aig_Eval.ok : fnOk Try.prog Try.f45 2 = true := by kernel_rfl
theorem aig_Eval.calls {g__p : Option Addr} {g__n : Nat} {g__c : Nat} {ins__p : Option Addr} {ins__n : Nat} {ins__c : Nat} {w : World} {R : Ending → World → Prop} (h : aig_Eval.w g__p g__n g__c ins__p ins__n ins__c w fun v w' => R (.returned v) w') : Calls Try.prog 45 #[.slice g__p g__n g__c, .slice ins__p ins__n ins__c] w R :=
  calls_of mixed Try.func45 aig_Eval.ok rfl (fun K => aig_Eval.eq g__p g__n g__c ins__p ins__n ins__c w K) h

/-! ### fathom/vec.Number: function 46 (named slots 8) -/
def vec_Number.w (v__p : Option Addr) (v__n : Nat) (v__c : Nat) (a__p : Option Addr) (a__n : Nat) (a__c : Nat) (w : World) (K : Value → World → Prop) : Prop :=
  cnd (decide ((a__n : Int) > (16 : Int)))
  (K (.int .i64 0) w)
  (∃ I1 : Int → Int → World → Nat → Prop, (∃ k2, I1 0 0 w k2) ∧
    ∀ (n_4 : Int) (v5 : Int) (w6 : World) (k2 : Nat) (_ : Fr), I1 n_4 v5 w6 k2 →
    cnd (decide (v5 < (a__n : Int)))
      (ixK a__p a__n v5 1 fun a7 =>
        ∃ x8 : Int, w6.cell? a7 = some (.int .i64 x8) ∧ 
        Calls Try.prog 70 #[.slice v__p v__n v__c, .int .i64 x8] w6 fun e w9 => ∃ r10 : Bool, e = .returned (.bool r10) ∧ 
        cnd r10
        (0 ≤ v5 ∧ ∃ k3, k3 < k2 ∧ I1 (IntKind.i64.wrap ((BitVec.ofInt (IntKind.bits .i64) n_4 ||| BitVec.ofInt (IntKind.bits .i64) (IntKind.i64.wrap ((1 : Int) * 2 ^ (min v5.toNat (IntKind.bits .i64))))).toNat)) (IntKind.i64.wrap (v5 + (1 : Int))) w9 k3)
        (∃ k3, k3 < k2 ∧ I1 n_4 (IntKind.i64.wrap (v5 + (1 : Int))) w9 k3))
      (K (.int .i64 n_4) w6))
theorem vec_Number.eq (v__p : Option Addr) (v__n : Nat) (v__c : Nat) (a__p : Option Addr) (a__n : Nat) (a__c : Nat) (w : World) (K : Value → World → Prop) : wpF Try.prog Try.f46 (.two .leaf (.two .leaf (.two .leaf (.two (.two .leaf (.one (.loop [(5, 3), (13, 3)] .leaf))) .leaf)))) [.slice v__p v__n v__c, .slice a__p a__n a__c] w K = vec_Number.w v__p v__n v__c a__p a__n a__c w K := by kernel_rfl
theorem vec_Number.ok : fnOk Try.prog Try.f46 2 = true := by kernel_rfl
theorem vec_Number.calls {v__p : Option Addr} {v__n : Nat} {v__c : Nat} {a__p : Option Addr} {a__n : Nat} {a__c : Nat} {w : World} {R : Ending → World → Prop} (h : vec_Number.w v__p v__n v__c a__p a__n a__c w fun v w' => R (.returned v) w') : Calls Try.prog 46 #[.slice v__p v__n v__c, .slice a__p a__n a__c] w R :=
  calls_of mixed Try.func46 vec_Number.ok rfl (fun K => vec_Number.eq v__p v__n v__c a__p a__n a__c w K) h

/-! ### fathom/rank.squared: function 47 (named slots 3) -/
def rank_squared.w (s__p : Option Addr) (s__n : Nat) (s__c : Nat) (w : World) (K : Value → World → Prop) : Prop :=
  ∀ (n1 : Nat) (w2 : World), New (.cells #[.slice s__p s__n s__c] 22) w n1 w2 → 
  ∃ x3_p : Option Addr, ∃ x3_n : Nat, ∃ x3_c : Nat, w2.cell? (Addr.mk n1 0 none) = some (.slice x3_p x3_n x3_c) ∧ 
  cnd (decide ((x3_n : Int) ≤ (40 : Int)))
  (∃ x4_p : Option Addr, ∃ x4_n : Nat, ∃ x4_c : Nat, w2.cell? (Addr.mk n1 0 none) = some (.slice x4_p x4_n x4_c) ∧ 
  Calls Try.prog 74 #[.slice x4_p x4_n x4_c, .func (.func 75) #[] #[.pointer (some (Addr.mk n1 0 none))]] w2 fun e w5 => ∃ r6 : Bool, e = .returned (.bool r6) ∧ 
  K (.bool (!r6)) w5)
  (K (.bool false) w2)
theorem rank_squared.eq (s__p : Option Addr) (s__n : Nat) (s__c : Nat) (w : World) (K : Value → World → Prop) : wpF Try.prog Try.f47 .leaf [.slice s__p s__n s__c] w K = rank_squared.w s__p s__n s__c w K := by kernel_rfl
theorem rank_squared.ok : fnOk Try.prog Try.f47 1 = true := by kernel_rfl
theorem rank_squared.calls {s__p : Option Addr} {s__n : Nat} {s__c : Nat} {w : World} {R : Ending → World → Prop} (h : rank_squared.w s__p s__n s__c w fun v w' => R (.returned v) w') : Calls Try.prog 47 #[.slice s__p s__n s__c] w R :=
  calls_of mixed Try.func47 rank_squared.ok rfl (fun K => rank_squared.eq s__p s__n s__c w K) h

/-! ### slices.Clone[[]bool,bool]: function 48 (named slots 5) -/
def slices_Clone_bool_bool.w (s__p : Option Addr) (s__n : Nat) (s__c : Nat) (w : World) (K : Value → World → Prop) : Prop :=
  cnd s__p.isNone
  (K (.slice none 0 0) w)
  (∀ (n1 : Nat) (w2 : World), New (.cells #[] 4) w n1 w2 → 
    ∃ w3 : World, ∃ r4_p : Option Addr, ∃ r4_n : Nat, ∃ r4_c : Nat, (Builtin.append_ #[28, 28] 28 #[.slice (some (Addr.mk n1 0 none)) 0 0, .slice s__p s__n s__c]).run Try.prog w2 = .ok (.slice r4_p r4_n r4_c) w3 ∧ 
    K (.slice r4_p r4_n r4_c) w3)
theorem slices_Clone_bool_bool.eq (s__p : Option Addr) (s__n : Nat) (s__c : Nat) (w : World) (K : Value → World → Prop) : wpF Try.prog Try.f48 .leaf [.slice s__p s__n s__c] w K = slices_Clone_bool_bool.w s__p s__n s__c w K := by kernel_rfl
theorem slices_Clone_bool_bool.ok : fnOk Try.prog Try.f48 1 = true := by kernel_rfl
theorem slices_Clone_bool_bool.calls {s__p : Option Addr} {s__n : Nat} {s__c : Nat} {w : World} {R : Ending → World → Prop} (h : slices_Clone_bool_bool.w s__p s__n s__c w fun v w' => R (.returned v) w') : Calls Try.prog 48 #[.slice s__p s__n s__c] w R :=
  calls_of mixed Try.func48 slices_Clone_bool_bool.ok rfl (fun K => slices_Clone_bool_bool.eq s__p s__n s__c w K) h

/-! ### fathom/rank.room: function 59 (named slots 5) -/
def rank_room.w (x0_ : Option Addr) (n_ : Int) (w : World) (K : Value → World → Prop) : Prop :=
  Calls Try.prog 80 #[.pointer x0_, .int .i64 0] w fun e w1 => ∃ r2 : Bool, e = .returned (.bool r2) ∧ 
  cnd r2
  (Calls Try.prog 29 #[.pointer x0_] w1 fun e w3 => ∃ r4 : Int, e = .returned (.int .i64 r4) ∧ 
  K (.bool (decide (n_ ≤ (IntKind.i64.wrap ((1048576 : Int) - r4))))) w3)
  (K (.bool false) w1)
theorem rank_room.eq (x0_ : Option Addr) (n_ : Int) (w : World) (K : Value → World → Prop) : wpF Try.prog Try.f59 .leaf [.pointer x0_, .int .i64 n_] w K = rank_room.w x0_ n_ w K := by kernel_rfl
theorem rank_room.ok : fnOk Try.prog Try.f59 2 = true := by kernel_rfl
theorem rank_room.calls {x0_ : Option Addr} {n_ : Int} {w : World} {R : Ending → World → Prop} (h : rank_room.w x0_ n_ w fun v w' => R (.returned v) w') : Calls Try.prog 59 #[.pointer x0_, .int .i64 n_] w R :=
  calls_of mixed Try.func59 rank_room.ok rfl (fun K => rank_room.eq x0_ n_ w K) h

/-! ### fathom/rank.square: function 60 (named slots 4) -/
def rank_square.w (n_ : Int) (w : World) (K : Value → World → Prop) : Prop :=
  ∃ I1 : Option Addr → Nat → Nat → Int → World → Nat → Prop, (∃ k2, I1 none 0 0 0 w k2) ∧
  ∀ (s_4_p : Option Addr) (s_4_n : Nat) (s_4_c : Nat) (v5 : Int) (w6 : World) (k2 : Nat) (_ : Fr), I1 s_4_p s_4_n s_4_c v5 w6 k2 →
  cnd (decide (v5 < n_))
    (∃ w7 : World, ∃ r8_p : Option Addr, ∃ r8_n : Nat, ∃ r8_c : Nat, (Instr.makeSlice 24 (.int .i64 n_) (.int .i64 n_)).run Try.prog w6 = .ok (.slice r8_p r8_n r8_c) w7 ∧ 
      ∀ (n9 : Nat) (w10 : World), New (.cells #[.slice r8_p r8_n r8_c] 24) w7 n9 w10 → 
      ∃ w11 : World, ∃ r12_p : Option Addr, ∃ r12_n : Nat, ∃ r12_c : Nat, (Builtin.append_ #[34, 34] 34 #[.slice s_4_p s_4_n s_4_c, .slice (some (Addr.mk n9 0 none)) 1 1]).run Try.prog w10 = .ok (.slice r12_p r12_n r12_c) w11 ∧ 
      ∃ k3, k3 < k2 ∧ I1 r12_p r12_n r12_c (IntKind.i64.wrap (v5 + (1 : Int))) w11 k3)
    (K (.slice s_4_p s_4_n s_4_c) w6)
theorem rank_square.eq (n_ : Int) (w : World) (K : Value → World → Prop) : wpF Try.prog Try.f60 (.two .leaf (.two .leaf (.two (.two .leaf (.one (.loop [(3, 34), (5, 3)] .leaf))) .leaf))) [.int .i64 n_] w K = rank_square.w n_ w K := by kernel_rfl
theorem rank_square.ok : fnOk Try.prog Try.f60 1 = true := by kernel_rfl
theorem rank_square.calls {n_ : Int} {w : World} {R : Ending → World → Prop} (h : rank_square.w n_ w fun v w' => R (.returned v) w') : Calls Try.prog 60 #[.int .i64 n_] w R :=
  calls_of mixed Try.func60 rank_square.ok rfl (fun K => rank_square.eq n_ w K) h

/-! ### fathom/rank.is: function 61 (named slots 7) -/
def rank_is.w (x0_ : Option Addr) (s__p : Option Addr) (s__n : Nat) (s__c : Nat) (w : World) (K : Value → World → Prop) : Prop :=
  ∀ (n1 : Nat) (w2 : World), New (.cells #[.pointer x0_] 47) w n1 w2 → 
  ∃ x3 : Option Addr, w2.cell? (Addr.mk n1 0 none) = some (.pointer x3) ∧ 
  Calls Try.prog 80 #[.pointer x3, .int .i64 0] w2 fun e w4 => ∃ r5 : Bool, e = .returned (.bool r5) ∧ 
  cnd (!r5)
  (K (.bool false) w4)
  (cnd (decide ((s__n : Int) > (40 : Int)))
  (K (.bool false) w4)
  (∃ I6 : Int → World → Nat → Prop, (∃ k7, I6 0 w4 k7) ∧
    ∀ (v9 : Int) (w10 : World) (k7 : Nat) (_ : Fr), I6 v9 w10 k7 →
    cnd (decide (v9 < (s__n : Int)))
      (ixK s__p s__n v9 1 fun a11 =>
        ∃ x12_p : Option Addr, ∃ x12_n : Nat, ∃ x12_c : Nat, w10.cell? a11 = some (.slice x12_p x12_n x12_c) ∧ 
        cnd ((x12_n : Int) != (s__n : Int))
        (K (.bool false) w10)
        (Calls Try.prog 68 #[.slice x12_p x12_n x12_c, .func (.func 81) #[] #[.pointer (some (Addr.mk n1 0 none))]] w10 fun e w13 => ∃ r14 : Bool, e = .returned (.bool r14) ∧ 
        cnd r14
        (K (.bool false) w13)
        (∃ k8, k8 < k7 ∧ I6 (IntKind.i64.wrap (v9 + (1 : Int))) w13 k8)))
      (K (.bool true) w10)))
theorem rank_is.eq (x0_ : Option Addr) (s__p : Option Addr) (s__n : Nat) (s__c : Nat) (w : World) (K : Value → World → Prop) : wpF Try.prog Try.f61 (.two .leaf (.two .leaf (.two (.two .leaf (.one (.loop [(17, 3)] .leaf))) .leaf))) [.pointer x0_, .slice s__p s__n s__c] w K = rank_is.w x0_ s__p s__n s__c w K := by kernel_rfl
theorem rank_is.ok : fnOk Try.prog Try.f61 2 = true := by kernel_rfl
theorem rank_is.calls {x0_ : Option Addr} {s__p : Option Addr} {s__n : Nat} {s__c : Nat} {w : World} {R : Ending → World → Prop} (h : rank_is.w x0_ s__p s__n s__c w fun v w' => R (.returned v) w') : Calls Try.prog 61 #[.pointer x0_, .slice s__p s__n s__c] w R :=
  calls_of mixed Try.func61 rank_is.ok rfl (fun K => rank_is.eq x0_ s__p s__n s__c w K) h

/-! ### slices.Clone[[]fathom/api.Gate,fathom/api.Gate]: function 62 (named slots 77) -/
def slices_Clone_fathom_api_Gate_fathom_api_Gate.w (s__p : Option Addr) (s__n : Nat) (s__c : Nat) (w : World) (K : Value → World → Prop) : Prop :=
  cnd s__p.isNone
  (K (.slice none 0 0) w)
  (∀ (n1 : Nat) (w2 : World), New (.cells #[] 76) w n1 w2 → 
    ∃ w3 : World, ∃ r4_p : Option Addr, ∃ r4_n : Nat, ∃ r4_c : Nat, (Builtin.append_ #[33, 33] 33 #[.slice (some (Addr.mk n1 0 none)) 0 0, .slice s__p s__n s__c]).run Try.prog w2 = .ok (.slice r4_p r4_n r4_c) w3 ∧ 
    K (.slice r4_p r4_n r4_c) w3)
theorem slices_Clone_fathom_api_Gate_fathom_api_Gate.eq (s__p : Option Addr) (s__n : Nat) (s__c : Nat) (w : World) (K : Value → World → Prop) : wpF Try.prog Try.f62 .leaf [.slice s__p s__n s__c] w K = slices_Clone_fathom_api_Gate_fathom_api_Gate.w s__p s__n s__c w K := by kernel_rfl
theorem slices_Clone_fathom_api_Gate_fathom_api_Gate.ok : fnOk Try.prog Try.f62 1 = true := by kernel_rfl
theorem slices_Clone_fathom_api_Gate_fathom_api_Gate.calls {s__p : Option Addr} {s__n : Nat} {s__c : Nat} {w : World} {R : Ending → World → Prop} (h : slices_Clone_fathom_api_Gate_fathom_api_Gate.w s__p s__n s__c w fun v w' => R (.returned v) w') : Calls Try.prog 62 #[.slice s__p s__n s__c] w R :=
  calls_of mixed Try.func62 slices_Clone_fathom_api_Gate_fathom_api_Gate.ok rfl (fun K => slices_Clone_fathom_api_Gate_fathom_api_Gate.eq s__p s__n s__c w K) h

/-! ### fathom/aig.Check: function 63 (named slots 5) -/
def aig_Check.w (g__p : Option Addr) (g__n : Nat) (g__c : Nat) (w : World) (K : Value → World → Prop) : Prop :=
  cnd (decide ((g__n : Int) > (1048576 : Int)))
  (K (.int .i64 1) w)
  (∃ I1 : Int → World → Nat → Prop, (∃ k2, I1 0 w k2) ∧
    ∀ (v4 : Int) (w5 : World) (k2 : Nat) (_ : Fr), I1 v4 w5 k2 →
    cnd (decide (v4 < (g__n : Int)))
      (ixK g__p g__n v4 2 fun a6 =>
        ∃ x7 : Int, ∃ x8 : Int, CellsAt w5 a6 0 [.int .i64 x7, .int .i64 x8] ∧ 
        ∀ (n9 : Nat) (w10 : World), New (.cells #[.int .i64 0, .int .i64 0] 76) w5 n9 w10 → 
        ∃ w11 : World, StoreAt (Addr.mk n9 0 none) 0 [.int .i64 x7, .int .i64 x8] w10 w11 ∧ 
        (∃ x12 : Int, ∃ x13 : Int, CellsAt w11.drew (Addr.mk n9 0 none) 0 [.int .i64 x12, .int .i64 x13] ∧ 
        Calls Try.prog 72 #[] w11.drew fun e w14 => ∃ r15 : Int, ∃ r16 : Int, e = .returned (.agg #[.int .i64 r15, .int .i64 r16]) ∧ 
        ∃ w17 : World, ∃ r18 : Bool, (do eqGuard .neq 76 (.tmp 15) (.tmp 16) (.agg #[.int .i64 x12, .int .i64 x13]) (.agg #[.int .i64 r15, .int .i64 r16]); binOp .neq 76 (.agg #[.int .i64 x12, .int .i64 x13]) (.agg #[.int .i64 r15, .int .i64 r16])).run Try.prog w14 = .ok (.bool r18) w17 ∧ 
        cnd r18
        (∃ x19 : Int, w17.cell? ((Addr.mk n9 0 none).add 0) = some (.int .i64 x19) ∧ 
        cnd (decide (x19 < (0 : Int)))
        (K (.int .i64 1) w17)
        (∃ x20 : Int, w17.cell? ((Addr.mk n9 0 none).add 1) = some (.int .i64 x20) ∧ 
        cnd (decide (x20 < (0 : Int)))
        (K (.int .i64 1) w17)
        (∃ x21 : Int, w17.cell? ((Addr.mk n9 0 none).add 0) = some (.int .i64 x21) ∧ 
        cnd (decide (x21 > (IntKind.i64.wrap ((IntKind.i64.wrap ((2 : Int) * v4)) + (1 : Int)))))
        (K (.int .i64 1) w17)
        (∃ x22 : Int, w17.cell? ((Addr.mk n9 0 none).add 1) = some (.int .i64 x22) ∧ 
        cnd (decide (x22 > (IntKind.i64.wrap ((IntKind.i64.wrap ((2 : Int) * v4)) + (1 : Int)))))
        (K (.int .i64 1) w17)
        (∃ k3, k3 < k2 ∧ I1 (IntKind.i64.wrap (v4 + (1 : Int))) w17 k3)))))
        (∃ k3, k3 < k2 ∧ I1 (IntKind.i64.wrap (v4 + (1 : Int))) w17 k3)) ∧
      (Calls Try.prog 72 #[] w11.drew fun e w23 => ∃ r24 : Int, ∃ r25 : Int, e = .returned (.agg #[.int .i64 r24, .int .i64 r25]) ∧ 
        ∃ x26 : Int, ∃ x27 : Int, CellsAt w23 (Addr.mk n9 0 none) 0 [.int .i64 x26, .int .i64 x27] ∧ 
        ∃ w28 : World, ∃ r29 : Bool, (do eqGuard .neq 76 (.tmp 15) (.tmp 16) (.agg #[.int .i64 x26, .int .i64 x27]) (.agg #[.int .i64 r24, .int .i64 r25]); binOp .neq 76 (.agg #[.int .i64 x26, .int .i64 x27]) (.agg #[.int .i64 r24, .int .i64 r25])).run Try.prog w23 = .ok (.bool r29) w28 ∧ 
        cnd r29
        (∃ x30 : Int, w28.cell? ((Addr.mk n9 0 none).add 0) = some (.int .i64 x30) ∧ 
        cnd (decide (x30 < (0 : Int)))
        (K (.int .i64 1) w28)
        (∃ x31 : Int, w28.cell? ((Addr.mk n9 0 none).add 1) = some (.int .i64 x31) ∧ 
        cnd (decide (x31 < (0 : Int)))
        (K (.int .i64 1) w28)
        (∃ x32 : Int, w28.cell? ((Addr.mk n9 0 none).add 0) = some (.int .i64 x32) ∧ 
        cnd (decide (x32 > (IntKind.i64.wrap ((IntKind.i64.wrap ((2 : Int) * v4)) + (1 : Int)))))
        (K (.int .i64 1) w28)
        (∃ x33 : Int, w28.cell? ((Addr.mk n9 0 none).add 1) = some (.int .i64 x33) ∧ 
        cnd (decide (x33 > (IntKind.i64.wrap ((IntKind.i64.wrap ((2 : Int) * v4)) + (1 : Int)))))
        (K (.int .i64 1) w28)
        (∃ k3, k3 < k2 ∧ I1 (IntKind.i64.wrap (v4 + (1 : Int))) w28 k3)))))
        (∃ k3, k3 < k2 ∧ I1 (IntKind.i64.wrap (v4 + (1 : Int))) w28 k3)))
      (K (.int .i64 0) w5))
theorem aig_Check.eq (g__p : Option Addr) (g__n : Nat) (g__c : Nat) (w : World) (K : Value → World → Prop) : wpF Try.prog Try.f63 (.two .leaf (.two .leaf (.two (.two .leaf (.one (.loop [(10, 3)] .leaf))) .leaf))) [.slice g__p g__n g__c] w K = aig_Check.w g__p g__n g__c w K := by kernel_rfl
theorem aig_Check.ok : fnOk Try.prog Try.f63 1 = true := by kernel_rfl
theorem aig_Check.calls {g__p : Option Addr} {g__n : Nat} {g__c : Nat} {w : World} {R : Ending → World → Prop} (h : aig_Check.w g__p g__n g__c w fun v w' => R (.returned v) w') : Calls Try.prog 63 #[.slice g__p g__n g__c] w R :=
  calls_of mixed Try.func63 aig_Check.ok rfl (fun K => aig_Check.eq g__p g__n g__c w K) h

/-! ### slices.ContainsFunc[[]int,int]: function 68 (named slots 5) -/
def slices_ContainsFunc_int_int.w (s__p : Option Addr) (s__n : Nat) (s__c : Nat) (f_f : FuncId) (f_v : Array Value) (w : World) (K : Value → World → Prop) : Prop :=
  Calls Try.prog 83 #[.slice s__p s__n s__c, .func (.func f_f) #[] f_v] w fun e w1 => ∃ r2 : Int, e = .returned (.int .i64 r2) ∧ 
  K (.bool (decide (r2 ≥ (0 : Int)))) w1
theorem slices_ContainsFunc_int_int.eq (s__p : Option Addr) (s__n : Nat) (s__c : Nat) (f_f : FuncId) (f_v : Array Value) (w : World) (K : Value → World → Prop) : wpF Try.prog Try.f68 .leaf [.slice s__p s__n s__c, .func (.func f_f) #[] f_v] w K = slices_ContainsFunc_int_int.w s__p s__n s__c f_f f_v w K := by kernel_rfl
theorem slices_ContainsFunc_int_int.ok : fnOk Try.prog Try.f68 2 = true := by kernel_rfl
theorem slices_ContainsFunc_int_int.calls {s__p : Option Addr} {s__n : Nat} {s__c : Nat} {f_f : FuncId} {f_v : Array Value} {w : World} {R : Ending → World → Prop} (h : slices_ContainsFunc_int_int.w s__p s__n s__c f_f f_v w fun v w' => R (.returned v) w') : Calls Try.prog 68 #[.slice s__p s__n s__c, .func (.func f_f) #[] f_v] w R :=
  calls_of mixed Try.func68 slices_ContainsFunc_int_int.ok rfl (fun K => slices_ContainsFunc_int_int.eq s__p s__n s__c f_f f_v w K) h

/-! ### fathom/aig.Value: function 70 (named slots 5) -/
def aig_Value.w (v__p : Option Addr) (v__n : Nat) (v__c : Nat) (l_ : Int) (w : World) (K : Value → World → Prop) : Prop :=
  cnd (decide (l_ < (0 : Int)))
  (K (.bool false) w)
  ((2 : Int) ≠ 0 ∧ cnd (decide ((IntKind.i64.wrap (l_.tdiv (2 : Int))) > (v__n : Int)))
  (K (.bool false) w)
  (cnd (decide (l_ < (2 : Int)))
    (K (.bool (l_ == (1 : Int))) w)
    ((2 : Int) ≠ 0 ∧ ixK v__p v__n (IntKind.i64.wrap ((IntKind.i64.wrap (l_.tdiv (2 : Int))) - (1 : Int))) 1 fun a1 =>
      ∃ x2 : Bool, w.cell? a1 = some (.bool x2) ∧ 
      (2 : Int) ≠ 0 ∧ K (.bool (!(x2 == ((l_.tmod (2 : Int)) == (1 : Int))))) w)))
theorem aig_Value.eq (v__p : Option Addr) (v__n : Nat) (v__c : Nat) (l_ : Int) (w : World) (K : Value → World → Prop) : wpF Try.prog Try.f70 .leaf [.slice v__p v__n v__c, .int .i64 l_] w K = aig_Value.w v__p v__n v__c l_ w K := by kernel_rfl
theorem aig_Value.ok : fnOk Try.prog Try.f70 2 = true := by kernel_rfl
theorem aig_Value.calls {v__p : Option Addr} {v__n : Nat} {v__c : Nat} {l_ : Int} {w : World} {R : Ending → World → Prop} (h : aig_Value.w v__p v__n v__c l_ w fun v w' => R (.returned v) w') : Calls Try.prog 70 #[.slice v__p v__n v__c, .int .i64 l_] w R :=
  calls_of mixed Try.func70 aig_Value.ok rfl (fun K => aig_Value.eq v__p v__n v__c l_ w K) h

/-! ### (*fathom/aig.Aig).add: function 71 (named slots 5) -/
def aig_Aig_add.w (x0_ : Option Addr) (n_0 : Int) (n_1 : Int) (w : World) (K : Value → World → Prop) : Prop :=
  ∀ (n1 : Nat) (w2 : World), New (.cells #[.int .i64 n_0, .int .i64 n_1] 76) w n1 w2 → 
  ∃ a3 : Addr, x0_ = some a3 ∧ ∃ x4_p : Option Addr, ∃ x4_n : Nat, ∃ x4_c : Nat, w2.cell? (a3.add 0) = some (.slice x4_p x4_n x4_c) ∧ 
  cnd (decide ((x4_n : Int) ≥ (1048576 : Int)))
  (K (.int .i64 (-1)) w2)
  (∃ a5 : Addr, x0_ = some a5 ∧ ∃ x6 : Int, ∃ x7 : Int, CellsAt w2.drew (Addr.mk n1 0 none) 0 [.int .i64 x6, .int .i64 x7] ∧ 
    (∃ x8_p : Option Addr, ∃ x8_n : Nat, ∃ x8_c : Nat, w2.drew.cell? (a5.add 0) = some (.slice x8_p x8_n x8_c) ∧ 
    ∀ (n9 : Nat) (w10 : World), New (.cells #[.int .i64 x6, .int .i64 x7] 76) w2.drew n9 w10 → 
    ∃ w11 : World, ∃ r12_p : Option Addr, ∃ r12_n : Nat, ∃ r12_c : Nat, (Builtin.append_ #[33, 33] 33 #[.slice x8_p x8_n x8_c, .slice (some (Addr.mk n9 0 none)) 1 1]).run Try.prog w10 = .ok (.slice r12_p r12_n r12_c) w11 ∧ 
    ∃ a13 : Addr, x0_ = some a13 ∧ ∃ w14 : World, StoreAt (a13.add 0) 0 [.slice r12_p r12_n r12_c] w11 w14 ∧ 
    ∃ a15 : Addr, x0_ = some a15 ∧ ∃ x16_p : Option Addr, ∃ x16_n : Nat, ∃ x16_c : Nat, w14.cell? (a15.add 0) = some (.slice x16_p x16_n x16_c) ∧ 
    K (.int .i64 (IntKind.i64.wrap ((2 : Int) * (x16_n : Int)))) w14) ∧
  (∀ (n17 : Nat) (w18 : World), New (.cells #[.int .i64 x6, .int .i64 x7] 76) w2.drew n17 w18 → 
    ∃ x19_p : Option Addr, ∃ x19_n : Nat, ∃ x19_c : Nat, w18.cell? (a5.add 0) = some (.slice x19_p x19_n x19_c) ∧ 
    ∃ w20 : World, ∃ r21_p : Option Addr, ∃ r21_n : Nat, ∃ r21_c : Nat, (Builtin.append_ #[33, 33] 33 #[.slice x19_p x19_n x19_c, .slice (some (Addr.mk n17 0 none)) 1 1]).run Try.prog w18 = .ok (.slice r21_p r21_n r21_c) w20 ∧ 
    ∃ a22 : Addr, x0_ = some a22 ∧ ∃ w23 : World, StoreAt (a22.add 0) 0 [.slice r21_p r21_n r21_c] w20 w23 ∧ 
    ∃ a24 : Addr, x0_ = some a24 ∧ ∃ x25_p : Option Addr, ∃ x25_n : Nat, ∃ x25_c : Nat, w23.cell? (a24.add 0) = some (.slice x25_p x25_n x25_c) ∧ 
    K (.int .i64 (IntKind.i64.wrap ((2 : Int) * (x25_n : Int)))) w23))
theorem aig_Aig_add.eq (x0_ : Option Addr) (n_0 : Int) (n_1 : Int) (w : World) (K : Value → World → Prop) : wpF Try.prog Try.f71 .leaf [.pointer x0_, .agg #[.int .i64 n_0, .int .i64 n_1]] w K = aig_Aig_add.w x0_ n_0 n_1 w K := by kernel_rfl
theorem aig_Aig_add.ok : fnOk Try.prog Try.f71 2 = true := by kernel_rfl
theorem aig_Aig_add.calls {x0_ : Option Addr} {n_0 : Int} {n_1 : Int} {w : World} {R : Ending → World → Prop} (h : aig_Aig_add.w x0_ n_0 n_1 w fun v w' => R (.returned v) w') : Calls Try.prog 71 #[.pointer x0_, .agg #[.int .i64 n_0, .int .i64 n_1]] w R :=
  calls_of mixed Try.func71 aig_Aig_add.ok rfl (fun K => aig_Aig_add.eq x0_ n_0 n_1 w K) h

/-! ### fathom/aig.input: function 72 (named slots 1) -/
def aig_input.w (w : World) (K : Value → World → Prop) : Prop :=
  ∀ (n1 : Nat) (w2 : World), New (.cells #[.int .i64 0, .int .i64 0] 76) w n1 w2 → 
  ∃ w3 : World, StoreAt (Addr.mk n1 0 none) 0 [.int .i64 (-1), .int .i64 (-1)] w2 w3 ∧ 
  ∃ x4 : Int, ∃ x5 : Int, CellsAt w3 (Addr.mk n1 0 none) 0 [.int .i64 x4, .int .i64 x5] ∧ 
  K (.agg #[.int .i64 x4, .int .i64 x5]) w3
theorem aig_input.eq (w : World) (K : Value → World → Prop) : wpF Try.prog Try.f72 .leaf [] w K = aig_input.w  w K := by kernel_rfl
theorem aig_input.ok : fnOk Try.prog Try.f72 0 = true := by kernel_rfl
theorem aig_input.calls {w : World} {R : Ending → World → Prop} (h : aig_input.w  w fun v w' => R (.returned v) w') : Calls Try.prog 72 #[] w R :=
  calls_of mixed Try.func72 aig_input.ok rfl (fun K => aig_input.eq  w K) h

/-! ### fathom/card.Count: function 73 (named slots 5) -/
def card_Count.w (x0_ : Option Addr) (l__p : Option Addr) (l__n : Nat) (l__c : Nat) (w : World) (K : Value → World → Prop) : Prop :=
  Calls Try.prog 84 #[.pointer x0_, .slice l__p l__n l__c] w fun e w1 => ∃ r2 : Bool, e = .returned (.bool r2) ∧ 
  cnd (!r2)
  (K (.slice none 0 0) w1)
  (Calls Try.prog 85 #[.pointer x0_, .slice l__p l__n l__c] w1 fun e w3 => ∃ r4_p : Option Addr, ∃ r4_n : Nat, ∃ r4_c : Nat, e = .returned (.slice r4_p r4_n r4_c) ∧ 
    K (.slice r4_p r4_n r4_c) w3)
theorem card_Count.eq (x0_ : Option Addr) (l__p : Option Addr) (l__n : Nat) (l__c : Nat) (w : World) (K : Value → World → Prop) : wpF Try.prog Try.f73 .leaf [.pointer x0_, .slice l__p l__n l__c] w K = card_Count.w x0_ l__p l__n l__c w K := by kernel_rfl
theorem card_Count.ok : fnOk Try.prog Try.f73 2 = true := by kernel_rfl
theorem card_Count.calls {x0_ : Option Addr} {l__p : Option Addr} {l__n : Nat} {l__c : Nat} {w : World} {R : Ending → World → Prop} (h : card_Count.w x0_ l__p l__n l__c w fun v w' => R (.returned v) w') : Calls Try.prog 73 #[.pointer x0_, .slice l__p l__n l__c] w R :=
  calls_of mixed Try.func73 card_Count.ok rfl (fun K => card_Count.eq x0_ l__p l__n l__c w K) h

/-! ### slices.ContainsFunc[[][]bool,[]bool]: function 74 (named slots 30) -/
def slices_ContainsFunc_bool_bool.w (s__p : Option Addr) (s__n : Nat) (s__c : Nat) (f_f : FuncId) (f_v : Array Value) (w : World) (K : Value → World → Prop) : Prop :=
  Calls Try.prog 86 #[.slice s__p s__n s__c, .func (.func f_f) #[] f_v] w fun e w1 => ∃ r2 : Int, e = .returned (.int .i64 r2) ∧ 
  K (.bool (decide (r2 ≥ (0 : Int)))) w1
theorem slices_ContainsFunc_bool_bool.eq (s__p : Option Addr) (s__n : Nat) (s__c : Nat) (f_f : FuncId) (f_v : Array Value) (w : World) (K : Value → World → Prop) : wpF Try.prog Try.f74 .leaf [.slice s__p s__n s__c, .func (.func f_f) #[] f_v] w K = slices_ContainsFunc_bool_bool.w s__p s__n s__c f_f f_v w K := by kernel_rfl
theorem slices_ContainsFunc_bool_bool.ok : fnOk Try.prog Try.f74 2 = true := by kernel_rfl
theorem slices_ContainsFunc_bool_bool.calls {s__p : Option Addr} {s__n : Nat} {s__c : Nat} {f_f : FuncId} {f_v : Array Value} {w : World} {R : Ending → World → Prop} (h : slices_ContainsFunc_bool_bool.w s__p s__n s__c f_f f_v w fun v w' => R (.returned v) w') : Calls Try.prog 74 #[.slice s__p s__n s__c, .func (.func f_f) #[] f_v] w R :=
  calls_of mixed Try.func74 slices_ContainsFunc_bool_bool.ok rfl (fun K => slices_ContainsFunc_bool_bool.eq s__p s__n s__c f_f f_v w K) h

/-! ### fathom/rank.squared$1: function 75 (named slots 4) -/
def rank_squared_1.w (r__p : Option Addr) (r__n : Nat) (r__c : Nat) (c0_ : Addr) (w : World) (K : Value → World → Prop) : Prop :=
  ∃ x1_p : Option Addr, ∃ x1_n : Nat, ∃ x1_c : Nat, w.cell? c0_ = some (.slice x1_p x1_n x1_c) ∧ 
  K (.bool ((r__n : Int) != (x1_n : Int))) w
theorem rank_squared_1.eq (r__p : Option Addr) (r__n : Nat) (r__c : Nat) (c0_ : Addr) (w : World) (K : Value → World → Prop) : wpF Try.prog Try.f75 .leaf [.slice r__p r__n r__c, .pointer (some c0_)] w K = rank_squared_1.w r__p r__n r__c c0_ w K := by kernel_rfl
theorem rank_squared_1.ok : fnOk Try.prog Try.f75 2 = true := by kernel_rfl
theorem rank_squared_1.calls {r__p : Option Addr} {r__n : Nat} {r__c : Nat} {c0_ : Addr} {w : World} {R : Ending → World → Prop} (h : rank_squared_1.w r__p r__n r__c c0_ w fun v w' => R (.returned v) w') : Calls Try.prog 75 #[.slice r__p r__n r__c, .pointer (some c0_)] w R :=
  calls_of mixed Try.func75 rank_squared_1.ok rfl (fun K => rank_squared_1.eq r__p r__n r__c c0_ w K) h

/-! ### (*fathom/aig.Aig).Is: function 80 (named slots 5) -/
def aig_Aig_Is.w (x0_ : Option Addr) (l_ : Int) (w : World) (K : Value → World → Prop) : Prop :=
  cnd (!x0_.isNone)
  (∃ a1 : Addr, x0_ = some a1 ∧ ∃ x2 : Option Nat, w.cell? (a1.add 1) = some (.map x2) ∧ 
  ∃ w3 : World, ∃ r4 : Bool, (do eqGuard .neq 89 (.tmp 11) (.const (.map none)) (.map x2) (.map none); binOp .neq 89 (.map x2) (.map none)).run Try.prog w = .ok (.bool r4) w3 ∧ 
  cnd r4
  (cnd (decide (l_ ≥ (0 : Int)))
  (∃ a5 : Addr, x0_ = some a5 ∧ ∃ x6_p : Option Addr, ∃ x6_n : Nat, ∃ x6_c : Nat, w3.cell? (a5.add 0) = some (.slice x6_p x6_n x6_c) ∧ 
  K (.bool (decide (l_ ≤ (IntKind.i64.wrap ((IntKind.i64.wrap ((2 : Int) * (x6_n : Int))) + (1 : Int)))))) w3)
  (K (.bool false) w3))
  (K (.bool false) w3))
  (K (.bool false) w)
theorem aig_Aig_Is.eq (x0_ : Option Addr) (l_ : Int) (w : World) (K : Value → World → Prop) : wpF Try.prog Try.f80 .leaf [.pointer x0_, .int .i64 l_] w K = aig_Aig_Is.w x0_ l_ w K := by kernel_rfl
theorem aig_Aig_Is.ok : fnOk Try.prog Try.f80 2 = true := by kernel_rfl
theorem aig_Aig_Is.calls {x0_ : Option Addr} {l_ : Int} {w : World} {R : Ending → World → Prop} (h : aig_Aig_Is.w x0_ l_ w fun v w' => R (.returned v) w') : Calls Try.prog 80 #[.pointer x0_, .int .i64 l_] w R :=
  calls_of mixed Try.func80 aig_Aig_Is.ok rfl (fun K => aig_Aig_Is.eq x0_ l_ w K) h

/-! ### fathom/rank.is$1: function 81 (named slots 4) -/
def rank_is_1.w (l_ : Int) (c0_ : Addr) (w : World) (K : Value → World → Prop) : Prop :=
  ∃ x1 : Option Addr, w.cell? c0_ = some (.pointer x1) ∧ 
  Calls Try.prog 80 #[.pointer x1, .int .i64 l_] w fun e w2 => ∃ r3 : Bool, e = .returned (.bool r3) ∧ 
  K (.bool (!r3)) w2
theorem rank_is_1.eq (l_ : Int) (c0_ : Addr) (w : World) (K : Value → World → Prop) : wpF Try.prog Try.f81 .leaf [.int .i64 l_, .pointer (some c0_)] w K = rank_is_1.w l_ c0_ w K := by kernel_rfl
theorem rank_is_1.ok : fnOk Try.prog Try.f81 2 = true := by kernel_rfl
theorem rank_is_1.calls {l_ : Int} {c0_ : Addr} {w : World} {R : Ending → World → Prop} (h : rank_is_1.w l_ c0_ w fun v w' => R (.returned v) w') : Calls Try.prog 81 #[.int .i64 l_, .pointer (some c0_)] w R :=
  calls_of mixed Try.func81 rank_is_1.ok rfl (fun K => rank_is_1.eq l_ c0_ w K) h

/-! ### slices.IndexFunc[[]int,int]: function 83 (named slots 5) -/
def slices_IndexFunc_int_int.w (s__p : Option Addr) (s__n : Nat) (s__c : Nat) (f_f : FuncId) (f_v : Array Value) (w : World) (K : Value → World → Prop) : Prop :=
  ∃ I1 : Int → World → Nat → Prop, (∃ k2, I1 0 w k2) ∧
  ∀ (v4 : Int) (w5 : World) (k2 : Nat) (_ : Fr), I1 v4 w5 k2 →
  cnd (decide (v4 < (s__n : Int)))
    (ixK s__p s__n v4 1 fun a6 =>
      ∃ x7 : Int, w5.cell? a6 = some (.int .i64 x7) ∧ 
      cnd (entB Try.prog f_f) (Calls Try.prog f_f (#[] ++ #[.int .i64 x7] ++ f_v) w5 fun e w8 => ∃ r9 : Bool, e = .returned (.bool r9) ∧ 
      cnd r9
      (K (.int .i64 v4) w8)
      (∃ k3, k3 < k2 ∧ I1 (IntKind.i64.wrap (v4 + (1 : Int))) w8 k3)) False)
    (K (.int .i64 (-1)) w5)
theorem slices_IndexFunc_int_int.eq (s__p : Option Addr) (s__n : Nat) (s__c : Nat) (f_f : FuncId) (f_v : Array Value) (w : World) (K : Value → World → Prop) : wpF Try.prog Try.f83 (.two .leaf (.two (.two .leaf (.one (.loop [(8, 3)] .leaf))) .leaf)) [.slice s__p s__n s__c, .func (.func f_f) #[] f_v] w K = slices_IndexFunc_int_int.w s__p s__n s__c f_f f_v w K := by kernel_rfl
theorem slices_IndexFunc_int_int.ok : fnOk Try.prog Try.f83 2 = true := by kernel_rfl
theorem slices_IndexFunc_int_int.calls {s__p : Option Addr} {s__n : Nat} {s__c : Nat} {f_f : FuncId} {f_v : Array Value} {w : World} {R : Ending → World → Prop} (h : slices_IndexFunc_int_int.w s__p s__n s__c f_f f_v w fun v w' => R (.returned v) w') : Calls Try.prog 83 #[.slice s__p s__n s__c, .func (.func f_f) #[] f_v] w R :=
  calls_of mixed Try.func83 slices_IndexFunc_int_int.ok rfl (fun K => slices_IndexFunc_int_int.eq s__p s__n s__c f_f f_v w K) h

/-! ### fathom/card.may: function 84 (named slots 5) -/
def card_may.w (x0_ : Option Addr) (l__p : Option Addr) (l__n : Nat) (l__c : Nat) (w : World) (K : Value → World → Prop) : Prop :=
  ∀ (n1 : Nat) (w2 : World), New (.cells #[.pointer x0_] 47) w n1 w2 → 
  ∃ x3 : Option Addr, w2.cell? (Addr.mk n1 0 none) = some (.pointer x3) ∧ 
  Calls Try.prog 80 #[.pointer x3, .int .i64 0] w2 fun e w4 => ∃ r5 : Bool, e = .returned (.bool r5) ∧ 
  cnd r5
  (cnd (decide ((l__n : Int) ≤ (64 : Int)))
  (Calls Try.prog 68 #[.slice l__p l__n l__c, .func (.func 88) #[] #[.pointer (some (Addr.mk n1 0 none))]] w4 fun e w6 => ∃ r7 : Bool, e = .returned (.bool r7) ∧ 
  K (.bool (!r7)) w6)
  (K (.bool false) w4))
  (K (.bool false) w4)
theorem card_may.eq (x0_ : Option Addr) (l__p : Option Addr) (l__n : Nat) (l__c : Nat) (w : World) (K : Value → World → Prop) : wpF Try.prog Try.f84 .leaf [.pointer x0_, .slice l__p l__n l__c] w K = card_may.w x0_ l__p l__n l__c w K := by kernel_rfl
theorem card_may.ok : fnOk Try.prog Try.f84 2 = true := by kernel_rfl
theorem card_may.calls {x0_ : Option Addr} {l__p : Option Addr} {l__n : Nat} {l__c : Nat} {w : World} {R : Ending → World → Prop} (h : card_may.w x0_ l__p l__n l__c w fun v w' => R (.returned v) w') : Calls Try.prog 84 #[.pointer x0_, .slice l__p l__n l__c] w R :=
  calls_of mixed Try.func84 card_may.ok rfl (fun K => card_may.eq x0_ l__p l__n l__c w K) h

/-! ### fathom/card.count: function 85 (named slots 9) -/
def card_count.w (x0_ : Option Addr) (l__p : Option Addr) (l__n : Nat) (l__c : Nat) (w : World) (K : Value → World → Prop) : Prop :=
  cnd ((l__n : Int) == (0 : Int))
  (∀ (n1 : Nat) (w2 : World), New (.cells #[.int .i64 0] 3) w n1 w2 → 
    K (.slice (some (Addr.mk n1 0 none)) 1 1) w2)
  (cnd ((l__n : Int) == (1 : Int))
    (ixK l__p l__n 0 1 fun a3 =>
      ∃ x4 : Int, w.cell? a3 = some (.int .i64 x4) ∧ 
      ∀ (n5 : Nat) (w6 : World), New (.cells #[.int .i64 x4] 3) w n5 w6 → 
      K (.slice (some (Addr.mk n5 0 none)) 1 1) w6)
    (Calls Try.prog 89 #[.int .i64 (l__n : Int)] w fun e w7 => ∃ r8 : Int, e = .returned (.int .i64 r8) ∧ 
      (2 : Int) ≠ 0 ∧ slK l__p l__n l__c 1 none (some (IntKind.i64.wrap ((l__n : Int).tdiv (2 : Int)))) none fun s9_p s9_n s9_c =>
      Calls Try.prog 85 #[.pointer x0_, .slice s9_p s9_n s9_c] w7.drew fun e w10 => ∃ r11_p : Option Addr, ∃ r11_n : Nat, ∃ r11_c : Nat, e = .returned (.slice r11_p r11_n r11_c) ∧ 
      slK l__p l__n l__c 1 (some (IntKind.i64.wrap ((l__n : Int).tdiv (2 : Int)))) none none fun s12_p s12_n s12_c =>
      Calls Try.prog 85 #[.pointer x0_, .slice s12_p s12_n s12_c] w10 fun e w13 => ∃ r14_p : Option Addr, ∃ r14_n : Nat, ∃ r14_c : Nat, e = .returned (.slice r14_p r14_n r14_c) ∧ 
      cnd r11_p.isNone
      (K (.slice none 0 0) w13)
      (cnd r14_p.isNone
      (K (.slice none 0 0) w13)
      (Calls Try.prog 91 #[.slice r11_p r11_n r11_c, .int .i64 r8] w13 fun e w15 => ∃ r16_p : Option Addr, ∃ r16_n : Nat, ∃ r16_c : Nat, e = .returned (.slice r16_p r16_n r16_c) ∧ 
        Calls Try.prog 91 #[.slice r14_p r14_n r14_c, .int .i64 r8] w15 fun e w17 => ∃ r18_p : Option Addr, ∃ r18_n : Nat, ∃ r18_c : Nat, e = .returned (.slice r18_p r18_n r18_c) ∧ 
        Calls Try.prog 90 #[.pointer x0_, .slice r16_p r16_n r16_c, .slice r18_p r18_n r18_c] w17 fun e w19 => ∃ r20_p : Option Addr, ∃ r20_n : Nat, ∃ r20_c : Nat, e = .returned (.slice r20_p r20_n r20_c) ∧ 
        K (.slice r20_p r20_n r20_c) w19))))
theorem card_count.eq (x0_ : Option Addr) (l__p : Option Addr) (l__n : Nat) (l__c : Nat) (w : World) (K : Value → World → Prop) : wpF Try.prog Try.f85 .leaf [.pointer x0_, .slice l__p l__n l__c] w K = card_count.w x0_ l__p l__n l__c w K := by kernel_rfl
theorem card_count.ok : fnOk Try.prog Try.f85 2 = true := by kernel_rfl
theorem card_count.calls {x0_ : Option Addr} {l__p : Option Addr} {l__n : Nat} {l__c : Nat} {w : World} {R : Ending → World → Prop} (h : card_count.w x0_ l__p l__n l__c w fun v w' => R (.returned v) w') : Calls Try.prog 85 #[.pointer x0_, .slice l__p l__n l__c] w R :=
  calls_of mixed Try.func85 card_count.ok rfl (fun K => card_count.eq x0_ l__p l__n l__c w K) h

/-! ### slices.IndexFunc[[][]bool,[]bool]: function 86 (named slots 30) -/
def slices_IndexFunc_bool_bool.w (s__p : Option Addr) (s__n : Nat) (s__c : Nat) (f_f : FuncId) (f_v : Array Value) (w : World) (K : Value → World → Prop) : Prop :=
  ∃ I1 : Int → World → Nat → Prop, (∃ k2, I1 0 w k2) ∧
  ∀ (v4 : Int) (w5 : World) (k2 : Nat) (_ : Fr), I1 v4 w5 k2 →
  cnd (decide (v4 < (s__n : Int)))
    (ixK s__p s__n v4 1 fun a6 =>
      ∃ x7_p : Option Addr, ∃ x7_n : Nat, ∃ x7_c : Nat, w5.cell? a6 = some (.slice x7_p x7_n x7_c) ∧ 
      cnd (entB Try.prog f_f) (Calls Try.prog f_f (#[] ++ #[.slice x7_p x7_n x7_c] ++ f_v) w5 fun e w8 => ∃ r9 : Bool, e = .returned (.bool r9) ∧ 
      cnd r9
      (K (.int .i64 v4) w8)
      (∃ k3, k3 < k2 ∧ I1 (IntKind.i64.wrap (v4 + (1 : Int))) w8 k3)) False)
    (K (.int .i64 (-1)) w5)
theorem slices_IndexFunc_bool_bool.eq (s__p : Option Addr) (s__n : Nat) (s__c : Nat) (f_f : FuncId) (f_v : Array Value) (w : World) (K : Value → World → Prop) : wpF Try.prog Try.f86 (.two .leaf (.two (.two .leaf (.one (.loop [(8, 3)] .leaf))) .leaf)) [.slice s__p s__n s__c, .func (.func f_f) #[] f_v] w K = slices_IndexFunc_bool_bool.w s__p s__n s__c f_f f_v w K := by kernel_rfl
theorem slices_IndexFunc_bool_bool.ok : fnOk Try.prog Try.f86 2 = true := by kernel_rfl
theorem slices_IndexFunc_bool_bool.calls {s__p : Option Addr} {s__n : Nat} {s__c : Nat} {f_f : FuncId} {f_v : Array Value} {w : World} {R : Ending → World → Prop} (h : slices_IndexFunc_bool_bool.w s__p s__n s__c f_f f_v w fun v w' => R (.returned v) w') : Calls Try.prog 86 #[.slice s__p s__n s__c, .func (.func f_f) #[] f_v] w R :=
  calls_of mixed Try.func86 slices_IndexFunc_bool_bool.ok rfl (fun K => slices_IndexFunc_bool_bool.eq s__p s__n s__c f_f f_v w K) h

/-! ### fathom/card.may$1: function 88 (named slots 4) -/
def card_may_1.w (a_ : Int) (c0_ : Addr) (w : World) (K : Value → World → Prop) : Prop :=
  ∃ x1 : Option Addr, w.cell? c0_ = some (.pointer x1) ∧ 
  Calls Try.prog 80 #[.pointer x1, .int .i64 a_] w fun e w2 => ∃ r3 : Bool, e = .returned (.bool r3) ∧ 
  K (.bool (!r3)) w2
theorem card_may_1.eq (a_ : Int) (c0_ : Addr) (w : World) (K : Value → World → Prop) : wpF Try.prog Try.f88 .leaf [.int .i64 a_, .pointer (some c0_)] w K = card_may_1.w a_ c0_ w K := by kernel_rfl
theorem card_may_1.ok : fnOk Try.prog Try.f88 2 = true := by kernel_rfl
theorem card_may_1.calls {a_ : Int} {c0_ : Addr} {w : World} {R : Ending → World → Prop} (h : card_may_1.w a_ c0_ w fun v w' => R (.returned v) w') : Calls Try.prog 88 #[.int .i64 a_, .pointer (some c0_)] w R :=
  calls_of mixed Try.func88 card_may_1.ok rfl (fun K => card_may_1.eq a_ c0_ w K) h

/-! ### fathom/card.Enough: function 89 (named slots 3) -/
def card_Enough.w (n_ : Int) (w : World) (K : Value → World → Prop) : Prop :=
  cnd (decide (n_ < (0 : Int)))
  (K (.int .i64 0) w)
  (cnd (decide (n_ > (65535 : Int)))
  (K (.int .i64 0) w)
  (Calls Try.prog 92 #[.int .u64 (IntKind.u64.wrap n_)] w fun e w1 => ∃ r2 : Int, e = .returned (.int .i64 r2) ∧ 
    K (.int .i64 (imax 1 r2)) w1))
theorem card_Enough.eq (n_ : Int) (w : World) (K : Value → World → Prop) : wpF Try.prog Try.f89 .leaf [.int .i64 n_] w K = card_Enough.w n_ w K := by kernel_rfl
theorem card_Enough.ok : fnOk Try.prog Try.f89 1 = true := by kernel_rfl
theorem card_Enough.calls {n_ : Int} {w : World} {R : Ending → World → Prop} (h : card_Enough.w n_ w fun v w' => R (.returned v) w') : Calls Try.prog 89 #[.int .i64 n_] w R :=
  calls_of mixed Try.func89 card_Enough.ok rfl (fun K => card_Enough.eq n_ w K) h

/-! ### fathom/vec.Add: function 90 (named slots 9) -/
def vec_Add.w (x0_ : Option Addr) (a__p : Option Addr) (a__n : Nat) (a__c : Nat) (b__p : Option Addr) (b__n : Nat) (b__c : Nat) (w : World) (K : Value → World → Prop) : Prop :=
  Calls Try.prog 93 #[.pointer x0_, .slice a__p a__n a__c, .slice b__p b__n b__c] w fun e w1 => ∃ r2 : Bool, e = .returned (.bool r2) ∧ 
  cnd (!r2)
  (K (.slice none 0 0) w1)
  (Calls Try.prog 94 #[.pointer x0_, .slice a__p a__n a__c, .slice b__p b__n b__c, .int .i64 0] w1 fun e w3 => ∃ r4_p : Option Addr, ∃ r4_n : Nat, ∃ r4_c : Nat, ∃ r5 : Int, e = .returned (.tuple #[.slice r4_p r4_n r4_c, .int .i64 r5]) ∧ 
    Calls Try.prog 95 #[.slice r4_p r4_n r4_c] w3 fun e w6 => ∃ r7_p : Option Addr, ∃ r7_n : Nat, ∃ r7_c : Nat, e = .returned (.slice r7_p r7_n r7_c) ∧ 
    K (.slice r7_p r7_n r7_c) w6)
theorem vec_Add.eq (x0_ : Option Addr) (a__p : Option Addr) (a__n : Nat) (a__c : Nat) (b__p : Option Addr) (b__n : Nat) (b__c : Nat) (w : World) (K : Value → World → Prop) : wpF Try.prog Try.f90 .leaf [.pointer x0_, .slice a__p a__n a__c, .slice b__p b__n b__c] w K = vec_Add.w x0_ a__p a__n a__c b__p b__n b__c w K := by kernel_rfl
theorem vec_Add.ok : fnOk Try.prog Try.f90 3 = true := by kernel_rfl
theorem vec_Add.calls {x0_ : Option Addr} {a__p : Option Addr} {a__n : Nat} {a__c : Nat} {b__p : Option Addr} {b__n : Nat} {b__c : Nat} {w : World} {R : Ending → World → Prop} (h : vec_Add.w x0_ a__p a__n a__c b__p b__n b__c w fun v w' => R (.returned v) w') : Calls Try.prog 90 #[.pointer x0_, .slice a__p a__n a__c, .slice b__p b__n b__c] w R :=
  calls_of mixed Try.func90 vec_Add.ok rfl (fun K => vec_Add.eq x0_ a__p a__n a__c b__p b__n b__c w K) h

/-! ### fathom/card.wide: function 91 (named slots 5) -/
def card_wide.w (a__p : Option Addr) (a__n : Nat) (a__c : Nat) (w1_ : Int) (w : World) (K : Value → World → Prop) : Prop :=
  ∃ I1 : Option Addr → Nat → Nat → World → Nat → Prop, (∃ k2, I1 a__p a__n a__c w k2) ∧
  ∀ (a_4_p : Option Addr) (a_4_n : Nat) (a_4_c : Nat) (w5 : World) (k2 : Nat) (_ : Fr), I1 a_4_p a_4_n a_4_c w5 k2 →
  cnd (decide ((a_4_n : Int) < w1_))
    (∀ (n6 : Nat) (w7 : World), New (.cells #[.int .i64 0] 3) w5 n6 w7 → 
      ∃ w8 : World, ∃ r9_p : Option Addr, ∃ r9_n : Nat, ∃ r9_c : Nat, (Builtin.append_ #[24, 24] 24 #[.slice a_4_p a_4_n a_4_c, .slice (some (Addr.mk n6 0 none)) 1 1]).run Try.prog w7 = .ok (.slice r9_p r9_n r9_c) w8 ∧ 
      ∃ k3, k3 < k2 ∧ I1 r9_p r9_n r9_c w8 k3)
    (K (.slice a_4_p a_4_n a_4_c) w5)
theorem card_wide.eq (a__p : Option Addr) (a__n : Nat) (a__c : Nat) (w1_ : Int) (w : World) (K : Value → World → Prop) : wpF Try.prog Try.f91 (.two .leaf (.two (.one (.loop [(0, 24)] .leaf)) .leaf)) [.slice a__p a__n a__c, .int .i64 w1_] w K = card_wide.w a__p a__n a__c w1_ w K := by kernel_rfl
theorem card_wide.ok : fnOk Try.prog Try.f91 2 = true := by kernel_rfl
theorem card_wide.calls {a__p : Option Addr} {a__n : Nat} {a__c : Nat} {w1_ : Int} {w : World} {R : Ending → World → Prop} (h : card_wide.w a__p a__n a__c w1_ w fun v w' => R (.returned v) w') : Calls Try.prog 91 #[.slice a__p a__n a__c, .int .i64 w1_] w R :=
  calls_of mixed Try.func91 card_wide.ok rfl (fun K => card_wide.eq a__p a__n a__c w1_ w K) h

/-! ### math/bits.Len: function 92 (named slots 3) -/
def bits_Len.w (x0_ : Int) (w : World) (K : Value → World → Prop) : Prop :=
  Calls Try.prog 97 #[.int .u64 x0_] w fun e w1 => ∃ r2 : Int, e = .returned (.int .i64 r2) ∧ 
  K (.int .i64 r2) w1
theorem bits_Len.eq (x0_ : Int) (w : World) (K : Value → World → Prop) : wpF Try.prog Try.f92 .leaf [.int .u64 x0_] w K = bits_Len.w x0_ w K := by kernel_rfl
theorem bits_Len.ok : fnOk Try.prog Try.f92 1 = true := by kernel_rfl
theorem bits_Len.calls {x0_ : Int} {w : World} {R : Ending → World → Prop} (h : bits_Len.w x0_ w fun v w' => R (.returned v) w') : Calls Try.prog 92 #[.int .u64 x0_] w R :=
  calls_of mixed Try.func92 bits_Len.ok rfl (fun K => bits_Len.eq x0_ w K) h

/-! ### fathom/vec.pair: function 93 (named slots 7) -/
def vec_pair.w (x0_ : Option Addr) (a__p : Option Addr) (a__n : Nat) (a__c : Nat) (b__p : Option Addr) (b__n : Nat) (b__c : Nat) (w : World) (K : Value → World → Prop) : Prop :=
  cnd ((a__n : Int) == (b__n : Int))
  (Calls Try.prog 98 #[.pointer x0_, .slice a__p a__n a__c] w fun e w1 => ∃ r2 : Int, e = .returned (.int .i64 r2) ∧ 
  cnd (r2 == (0 : Int))
  (Calls Try.prog 98 #[.pointer x0_, .slice b__p b__n b__c] w1 fun e w3 => ∃ r4 : Int, e = .returned (.int .i64 r4) ∧ 
  K (.bool (r4 == (0 : Int))) w3)
  (K (.bool false) w1))
  (K (.bool false) w)
theorem vec_pair.eq (x0_ : Option Addr) (a__p : Option Addr) (a__n : Nat) (a__c : Nat) (b__p : Option Addr) (b__n : Nat) (b__c : Nat) (w : World) (K : Value → World → Prop) : wpF Try.prog Try.f93 .leaf [.pointer x0_, .slice a__p a__n a__c, .slice b__p b__n b__c] w K = vec_pair.w x0_ a__p a__n a__c b__p b__n b__c w K := by kernel_rfl
theorem vec_pair.ok : fnOk Try.prog Try.f93 3 = true := by kernel_rfl
theorem vec_pair.calls {x0_ : Option Addr} {a__p : Option Addr} {a__n : Nat} {a__c : Nat} {b__p : Option Addr} {b__n : Nat} {b__c : Nat} {w : World} {R : Ending → World → Prop} (h : vec_pair.w x0_ a__p a__n a__c b__p b__n b__c w fun v w' => R (.returned v) w') : Calls Try.prog 93 #[.pointer x0_, .slice a__p a__n a__c, .slice b__p b__n b__c] w R :=
  calls_of mixed Try.func93 vec_pair.ok rfl (fun K => vec_pair.eq x0_ a__p a__n a__c b__p b__n b__c w K) h

/-! ### fathom/vec.sum: function 94 (named slots 13) -/
def vec_sum.w (x0_ : Option Addr) (a__p : Option Addr) (a__n : Nat) (a__c : Nat) (b__p : Option Addr) (b__n : Nat) (b__c : Nat) (c_ : Int) (w : World) (K : Value → World → Prop) : Prop :=
  ∃ I1 : Int → Option Addr → Nat → Nat → Int → World → Nat → Prop, (∃ k2, I1 c_ none 0 0 0 w k2) ∧
  ∀ (c_4 : Int) (out_5_p : Option Addr) (out_5_n : Nat) (out_5_c : Nat) (v6 : Int) (w7 : World) (k2 : Nat) (_ : Fr), I1 c_4 out_5_p out_5_n out_5_c v6 w7 k2 →
  cnd (decide (v6 < (a__n : Int)))
    (ixK a__p a__n v6 1 fun a8 =>
      ∃ x9 : Int, w7.drew.cell? a8 = some (.int .i64 x9) ∧ 
      ixK b__p b__n v6 1 fun a10 =>
      ∃ x11 : Int, w7.drew.cell? a10 = some (.int .i64 x11) ∧ 
      Calls Try.prog 99 #[.pointer x0_, .int .i64 x9, .int .i64 x11] w7.drew fun e w12 => ∃ r13 : Int, e = .returned (.int .i64 r13) ∧ 
      Calls Try.prog 99 #[.pointer x0_, .int .i64 r13, .int .i64 c_4] w12 fun e w14 => ∃ r15 : Int, e = .returned (.int .i64 r15) ∧ 
      ∀ (n16 : Nat) (w17 : World), New (.cells #[.int .i64 r15] 3) w14 n16 w17 → 
      ∃ w18 : World, ∃ r19_p : Option Addr, ∃ r19_n : Nat, ∃ r19_c : Nat, (Builtin.append_ #[24, 24] 24 #[.slice out_5_p out_5_n out_5_c, .slice (some (Addr.mk n16 0 none)) 1 1]).run Try.prog w17 = .ok (.slice r19_p r19_n r19_c) w18 ∧ 
      ixK a__p a__n v6 1 fun a20 =>
      ∃ x21 : Int, w18.drew.cell? a20 = some (.int .i64 x21) ∧ 
      ixK b__p b__n v6 1 fun a22 =>
      ∃ x23 : Int, w18.drew.cell? a22 = some (.int .i64 x23) ∧ 
      Calls Try.prog 101 #[.pointer x0_, .int .i64 x21, .int .i64 x23] w18.drew fun e w24 => ∃ r25 : Int, e = .returned (.int .i64 r25) ∧ 
      Calls Try.prog 101 #[.pointer x0_, .int .i64 r13, .int .i64 c_4] w24 fun e w26 => ∃ r27 : Int, e = .returned (.int .i64 r27) ∧ 
      Calls Try.prog 100 #[.pointer x0_, .int .i64 r25, .int .i64 r27] w26 fun e w28 => ∃ r29 : Int, e = .returned (.int .i64 r29) ∧ 
      ∃ k3, k3 < k2 ∧ I1 r29 r19_p r19_n r19_c (IntKind.i64.wrap (v6 + (1 : Int))) w28 k3)
    (K (.tuple #[.slice out_5_p out_5_n out_5_c, .int .i64 c_4]) w7)
theorem vec_sum.eq (x0_ : Option Addr) (a__p : Option Addr) (a__n : Nat) (a__c : Nat) (b__p : Option Addr) (b__n : Nat) (b__c : Nat) (c_ : Int) (w : World) (K : Value → World → Prop) : wpF Try.prog Try.f94 (.two .leaf (.two .leaf (.two (.two .leaf (.one (.loop [(3, 3), (10, 24), (15, 3)] .leaf))) .leaf))) [.pointer x0_, .slice a__p a__n a__c, .slice b__p b__n b__c, .int .i64 c_] w K = vec_sum.w x0_ a__p a__n a__c b__p b__n b__c c_ w K := by kernel_rfl
theorem vec_sum.ok : fnOk Try.prog Try.f94 4 = true := by kernel_rfl
theorem vec_sum.calls {x0_ : Option Addr} {a__p : Option Addr} {a__n : Nat} {a__c : Nat} {b__p : Option Addr} {b__n : Nat} {b__c : Nat} {c_ : Int} {w : World} {R : Ending → World → Prop} (h : vec_sum.w x0_ a__p a__n a__c b__p b__n b__c c_ w fun v w' => R (.returned v) w') : Calls Try.prog 94 #[.pointer x0_, .slice a__p a__n a__c, .slice b__p b__n b__c, .int .i64 c_] w R :=
  calls_of mixed Try.func94 vec_sum.ok rfl (fun K => vec_sum.eq x0_ a__p a__n a__c b__p b__n b__c c_ w K) h

/-! ### fathom/vec.whole: function 95 (named slots 3) -/
def vec_whole.w (a__p : Option Addr) (a__n : Nat) (a__c : Nat) (w : World) (K : Value → World → Prop) : Prop :=
  Calls Try.prog 102 #[.slice a__p a__n a__c, .int .i64 (-1)] w fun e w1 => ∃ r2 : Bool, e = .returned (.bool r2) ∧ 
  cnd r2
  (K (.slice none 0 0) w1)
  (K (.slice a__p a__n a__c) w1)
theorem vec_whole.eq (a__p : Option Addr) (a__n : Nat) (a__c : Nat) (w : World) (K : Value → World → Prop) : wpF Try.prog Try.f95 .leaf [.slice a__p a__n a__c] w K = vec_whole.w a__p a__n a__c w K := by kernel_rfl
theorem vec_whole.ok : fnOk Try.prog Try.f95 1 = true := by kernel_rfl
theorem vec_whole.calls {a__p : Option Addr} {a__n : Nat} {a__c : Nat} {w : World} {R : Ending → World → Prop} (h : vec_whole.w a__p a__n a__c w fun v w' => R (.returned v) w') : Calls Try.prog 95 #[.slice a__p a__n a__c] w R :=
  calls_of mixed Try.func95 vec_whole.ok rfl (fun K => vec_whole.eq a__p a__n a__c w K) h

/-! ### math/bits.Len32: function 96 (named slots 3) -/
def bits_Len32.w (x0_ : Int) (w : World) (K : Value → World → Prop) : Prop :=
  cnd (decide (x0_ ≥ (65536 : Int)))
  (0 ≤ (16 : Int) ∧ cnd (decide ((x0_.fdiv (2 ^ (min (16 : Int).toNat (IntKind.bits .u32)))) ≥ (256 : Int)))
    (0 ≤ (8 : Int) ∧ ∃ b1, 0 ≤ (IntKind.u8.wrap ((x0_.fdiv (2 ^ (min (16 : Int).toNat (IntKind.bits .u32)))).fdiv (2 ^ (min (8 : Int).toNat (IntKind.bits .u32))))) ∧ strtab0[(IntKind.u8.wrap ((x0_.fdiv (2 ^ (min (16 : Int).toNat (IntKind.bits .u32)))).fdiv (2 ^ (min (8 : Int).toNat (IntKind.bits .u32))))).toNat]? = some b1 ∧ 
      K (.int .i64 (IntKind.i64.wrap ((IntKind.i64.wrap ((16 : Int) + (8 : Int))) + (IntKind.i64.wrap (b1.toNat : Int))))) w)
    (∃ b2, 0 ≤ (IntKind.u8.wrap (x0_.fdiv (2 ^ (min (16 : Int).toNat (IntKind.bits .u32))))) ∧ strtab0[(IntKind.u8.wrap (x0_.fdiv (2 ^ (min (16 : Int).toNat (IntKind.bits .u32))))).toNat]? = some b2 ∧ 
      K (.int .i64 (IntKind.i64.wrap ((16 : Int) + (IntKind.i64.wrap (b2.toNat : Int))))) w))
  (cnd (decide (x0_ ≥ (256 : Int)))
    (0 ≤ (8 : Int) ∧ ∃ b3, 0 ≤ (IntKind.u8.wrap (x0_.fdiv (2 ^ (min (8 : Int).toNat (IntKind.bits .u32))))) ∧ strtab0[(IntKind.u8.wrap (x0_.fdiv (2 ^ (min (8 : Int).toNat (IntKind.bits .u32))))).toNat]? = some b3 ∧ 
      K (.int .i64 (IntKind.i64.wrap ((IntKind.i64.wrap ((0 : Int) + (8 : Int))) + (IntKind.i64.wrap (b3.toNat : Int))))) w)
    (∃ b4, 0 ≤ (IntKind.u8.wrap x0_) ∧ strtab0[(IntKind.u8.wrap x0_).toNat]? = some b4 ∧ 
      K (.int .i64 (IntKind.i64.wrap ((0 : Int) + (IntKind.i64.wrap (b4.toNat : Int))))) w))
theorem bits_Len32.eq (x0_ : Int) (w : World) (K : Value → World → Prop) : wpF Try.prog Try.f96 .leaf [.int .u32 x0_] w K = bits_Len32.w x0_ w K := by kernel_rfl
theorem bits_Len32.ok : fnOk Try.prog Try.f96 1 = true := by kernel_rfl
theorem bits_Len32.calls {x0_ : Int} {w : World} {R : Ending → World → Prop} (h : bits_Len32.w x0_ w fun v w' => R (.returned v) w') : Calls Try.prog 96 #[.int .u32 x0_] w R :=
  calls_of mixed Try.func96 bits_Len32.ok rfl (fun K => bits_Len32.eq x0_ w K) h

/-! ### math/bits.Len64: function 97 (named slots 3) -/
def bits_Len64.w (x0_ : Int) (w : World) (K : Value → World → Prop) : Prop :=
  cnd (decide (x0_ ≥ (4294967296 : Int)))
  (0 ≤ (32 : Int) ∧ cnd (decide ((x0_.fdiv (2 ^ (min (32 : Int).toNat (IntKind.bits .u64)))) ≥ (65536 : Int)))
    (0 ≤ (16 : Int) ∧ cnd (decide (((x0_.fdiv (2 ^ (min (32 : Int).toNat (IntKind.bits .u64)))).fdiv (2 ^ (min (16 : Int).toNat (IntKind.bits .u64)))) ≥ (256 : Int)))
      (0 ≤ (8 : Int) ∧ ∃ b1, 0 ≤ (IntKind.u8.wrap (((x0_.fdiv (2 ^ (min (32 : Int).toNat (IntKind.bits .u64)))).fdiv (2 ^ (min (16 : Int).toNat (IntKind.bits .u64)))).fdiv (2 ^ (min (8 : Int).toNat (IntKind.bits .u64))))) ∧ strtab0[(IntKind.u8.wrap (((x0_.fdiv (2 ^ (min (32 : Int).toNat (IntKind.bits .u64)))).fdiv (2 ^ (min (16 : Int).toNat (IntKind.bits .u64)))).fdiv (2 ^ (min (8 : Int).toNat (IntKind.bits .u64))))).toNat]? = some b1 ∧ 
        K (.int .i64 (IntKind.i64.wrap ((IntKind.i64.wrap ((IntKind.i64.wrap ((32 : Int) + (16 : Int))) + (8 : Int))) + (IntKind.i64.wrap (b1.toNat : Int))))) w)
      (∃ b2, 0 ≤ (IntKind.u8.wrap ((x0_.fdiv (2 ^ (min (32 : Int).toNat (IntKind.bits .u64)))).fdiv (2 ^ (min (16 : Int).toNat (IntKind.bits .u64))))) ∧ strtab0[(IntKind.u8.wrap ((x0_.fdiv (2 ^ (min (32 : Int).toNat (IntKind.bits .u64)))).fdiv (2 ^ (min (16 : Int).toNat (IntKind.bits .u64))))).toNat]? = some b2 ∧ 
        K (.int .i64 (IntKind.i64.wrap ((IntKind.i64.wrap ((32 : Int) + (16 : Int))) + (IntKind.i64.wrap (b2.toNat : Int))))) w))
    (cnd (decide ((x0_.fdiv (2 ^ (min (32 : Int).toNat (IntKind.bits .u64)))) ≥ (256 : Int)))
      (0 ≤ (8 : Int) ∧ ∃ b3, 0 ≤ (IntKind.u8.wrap ((x0_.fdiv (2 ^ (min (32 : Int).toNat (IntKind.bits .u64)))).fdiv (2 ^ (min (8 : Int).toNat (IntKind.bits .u64))))) ∧ strtab0[(IntKind.u8.wrap ((x0_.fdiv (2 ^ (min (32 : Int).toNat (IntKind.bits .u64)))).fdiv (2 ^ (min (8 : Int).toNat (IntKind.bits .u64))))).toNat]? = some b3 ∧ 
        K (.int .i64 (IntKind.i64.wrap ((IntKind.i64.wrap ((32 : Int) + (8 : Int))) + (IntKind.i64.wrap (b3.toNat : Int))))) w)
      (∃ b4, 0 ≤ (IntKind.u8.wrap (x0_.fdiv (2 ^ (min (32 : Int).toNat (IntKind.bits .u64))))) ∧ strtab0[(IntKind.u8.wrap (x0_.fdiv (2 ^ (min (32 : Int).toNat (IntKind.bits .u64))))).toNat]? = some b4 ∧ 
        K (.int .i64 (IntKind.i64.wrap ((32 : Int) + (IntKind.i64.wrap (b4.toNat : Int))))) w)))
  (cnd (decide (x0_ ≥ (65536 : Int)))
    (0 ≤ (16 : Int) ∧ cnd (decide ((x0_.fdiv (2 ^ (min (16 : Int).toNat (IntKind.bits .u64)))) ≥ (256 : Int)))
      (0 ≤ (8 : Int) ∧ ∃ b5, 0 ≤ (IntKind.u8.wrap ((x0_.fdiv (2 ^ (min (16 : Int).toNat (IntKind.bits .u64)))).fdiv (2 ^ (min (8 : Int).toNat (IntKind.bits .u64))))) ∧ strtab0[(IntKind.u8.wrap ((x0_.fdiv (2 ^ (min (16 : Int).toNat (IntKind.bits .u64)))).fdiv (2 ^ (min (8 : Int).toNat (IntKind.bits .u64))))).toNat]? = some b5 ∧ 
        K (.int .i64 (IntKind.i64.wrap ((IntKind.i64.wrap ((IntKind.i64.wrap ((0 : Int) + (16 : Int))) + (8 : Int))) + (IntKind.i64.wrap (b5.toNat : Int))))) w)
      (∃ b6, 0 ≤ (IntKind.u8.wrap (x0_.fdiv (2 ^ (min (16 : Int).toNat (IntKind.bits .u64))))) ∧ strtab0[(IntKind.u8.wrap (x0_.fdiv (2 ^ (min (16 : Int).toNat (IntKind.bits .u64))))).toNat]? = some b6 ∧ 
        K (.int .i64 (IntKind.i64.wrap ((IntKind.i64.wrap ((0 : Int) + (16 : Int))) + (IntKind.i64.wrap (b6.toNat : Int))))) w))
    (cnd (decide (x0_ ≥ (256 : Int)))
      (0 ≤ (8 : Int) ∧ ∃ b7, 0 ≤ (IntKind.u8.wrap (x0_.fdiv (2 ^ (min (8 : Int).toNat (IntKind.bits .u64))))) ∧ strtab0[(IntKind.u8.wrap (x0_.fdiv (2 ^ (min (8 : Int).toNat (IntKind.bits .u64))))).toNat]? = some b7 ∧ 
        K (.int .i64 (IntKind.i64.wrap ((IntKind.i64.wrap ((0 : Int) + (8 : Int))) + (IntKind.i64.wrap (b7.toNat : Int))))) w)
      (∃ b8, 0 ≤ (IntKind.u8.wrap x0_) ∧ strtab0[(IntKind.u8.wrap x0_).toNat]? = some b8 ∧ 
        K (.int .i64 (IntKind.i64.wrap ((0 : Int) + (IntKind.i64.wrap (b8.toNat : Int))))) w)))
theorem bits_Len64.eq (x0_ : Int) (w : World) (K : Value → World → Prop) : wpF Try.prog Try.f97 .leaf [.int .u64 x0_] w K = bits_Len64.w x0_ w K := by kernel_rfl
theorem bits_Len64.ok : fnOk Try.prog Try.f97 1 = true := by kernel_rfl
theorem bits_Len64.calls {x0_ : Int} {w : World} {R : Ending → World → Prop} (h : bits_Len64.w x0_ w fun v w' => R (.returned v) w') : Calls Try.prog 97 #[.int .u64 x0_] w R :=
  calls_of mixed Try.func97 bits_Len64.ok rfl (fun K => bits_Len64.eq x0_ w K) h

/-! ### fathom/vec.Check: function 98 (named slots 5) -/
def vec_Check.w (x0_ : Option Addr) (a__p : Option Addr) (a__n : Nat) (a__c : Nat) (w : World) (K : Value → World → Prop) : Prop :=
  ∀ (n1 : Nat) (w2 : World), New (.cells #[.pointer x0_] 47) w n1 w2 → 
  cnd (decide ((a__n : Int) < (1 : Int)))
  (K (.int .i64 1) w2)
  (cnd (decide ((a__n : Int) > (16 : Int)))
  (K (.int .i64 1) w2)
  (Calls Try.prog 68 #[.slice a__p a__n a__c, .func (.func 103) #[] #[.pointer (some (Addr.mk n1 0 none))]] w2 fun e w3 => ∃ r4 : Bool, e = .returned (.bool r4) ∧ 
  cnd r4
  (K (.int .i64 1) w3)
  (K (.int .i64 0) w3)))
theorem vec_Check.eq (x0_ : Option Addr) (a__p : Option Addr) (a__n : Nat) (a__c : Nat) (w : World) (K : Value → World → Prop) : wpF Try.prog Try.f98 .leaf [.pointer x0_, .slice a__p a__n a__c] w K = vec_Check.w x0_ a__p a__n a__c w K := by kernel_rfl
theorem vec_Check.ok : fnOk Try.prog Try.f98 2 = true := by kernel_rfl
theorem vec_Check.calls {x0_ : Option Addr} {a__p : Option Addr} {a__n : Nat} {a__c : Nat} {w : World} {R : Ending → World → Prop} (h : vec_Check.w x0_ a__p a__n a__c w fun v w' => R (.returned v) w') : Calls Try.prog 98 #[.pointer x0_, .slice a__p a__n a__c] w R :=
  calls_of mixed Try.func98 vec_Check.ok rfl (fun K => vec_Check.eq x0_ a__p a__n a__c w K) h

/-! ### (*fathom/aig.Aig).Xor: function 99 (named slots 8) -/
def aig_Aig_Xor.w (x0_ : Option Addr) (a_ : Int) (b_ : Int) (w : World) (K : Value → World → Prop) : Prop :=
  Calls Try.prog 104 #[.int .i64 b_] w fun e w1 => ∃ r2 : Int, e = .returned (.int .i64 r2) ∧ 
  Calls Try.prog 101 #[.pointer x0_, .int .i64 a_, .int .i64 r2] w1 fun e w3 => ∃ r4 : Int, e = .returned (.int .i64 r4) ∧ 
  Calls Try.prog 104 #[.int .i64 a_] w3 fun e w5 => ∃ r6 : Int, e = .returned (.int .i64 r6) ∧ 
  Calls Try.prog 101 #[.pointer x0_, .int .i64 r6, .int .i64 b_] w5 fun e w7 => ∃ r8 : Int, e = .returned (.int .i64 r8) ∧ 
  Calls Try.prog 100 #[.pointer x0_, .int .i64 r4, .int .i64 r8] w7 fun e w9 => ∃ r10 : Int, e = .returned (.int .i64 r10) ∧ 
  K (.int .i64 r10) w9
theorem aig_Aig_Xor.eq (x0_ : Option Addr) (a_ : Int) (b_ : Int) (w : World) (K : Value → World → Prop) : wpF Try.prog Try.f99 .leaf [.pointer x0_, .int .i64 a_, .int .i64 b_] w K = aig_Aig_Xor.w x0_ a_ b_ w K := by kernel_rfl
theorem aig_Aig_Xor.ok : fnOk Try.prog Try.f99 3 = true := by kernel_rfl
theorem aig_Aig_Xor.calls {x0_ : Option Addr} {a_ : Int} {b_ : Int} {w : World} {R : Ending → World → Prop} (h : aig_Aig_Xor.w x0_ a_ b_ w fun v w' => R (.returned v) w') : Calls Try.prog 99 #[.pointer x0_, .int .i64 a_, .int .i64 b_] w R :=
  calls_of mixed Try.func99 aig_Aig_Xor.ok rfl (fun K => aig_Aig_Xor.eq x0_ a_ b_ w K) h

/-! ### (*fathom/aig.Aig).Or: function 100 (named slots 7) -/
def aig_Aig_Or.w (x0_ : Option Addr) (a_ : Int) (b_ : Int) (w : World) (K : Value → World → Prop) : Prop :=
  Calls Try.prog 104 #[.int .i64 a_] w fun e w1 => ∃ r2 : Int, e = .returned (.int .i64 r2) ∧ 
  Calls Try.prog 104 #[.int .i64 b_] w1 fun e w3 => ∃ r4 : Int, e = .returned (.int .i64 r4) ∧ 
  Calls Try.prog 101 #[.pointer x0_, .int .i64 r2, .int .i64 r4] w3 fun e w5 => ∃ r6 : Int, e = .returned (.int .i64 r6) ∧ 
  Calls Try.prog 104 #[.int .i64 r6] w5 fun e w7 => ∃ r8 : Int, e = .returned (.int .i64 r8) ∧ 
  K (.int .i64 r8) w7
theorem aig_Aig_Or.eq (x0_ : Option Addr) (a_ : Int) (b_ : Int) (w : World) (K : Value → World → Prop) : wpF Try.prog Try.f100 .leaf [.pointer x0_, .int .i64 a_, .int .i64 b_] w K = aig_Aig_Or.w x0_ a_ b_ w K := by kernel_rfl
theorem aig_Aig_Or.ok : fnOk Try.prog Try.f100 3 = true := by kernel_rfl
theorem aig_Aig_Or.calls {x0_ : Option Addr} {a_ : Int} {b_ : Int} {w : World} {R : Ending → World → Prop} (h : aig_Aig_Or.w x0_ a_ b_ w fun v w' => R (.returned v) w') : Calls Try.prog 100 #[.pointer x0_, .int .i64 a_, .int .i64 b_] w R :=
  calls_of mixed Try.func100 aig_Aig_Or.ok rfl (fun K => aig_Aig_Or.eq x0_ a_ b_ w K) h

/-! ### (*fathom/aig.Aig).And: function 101 (named slots 19) -/
def aig_Aig_And.w (x0_ : Option Addr) (a_ : Int) (b_ : Int) (w : World) (K : Value → World → Prop) : Prop :=
  Calls Try.prog 80 #[.pointer x0_, .int .i64 a_] w fun e w1 => ∃ r2 : Bool, e = .returned (.bool r2) ∧ 
  cnd (!r2)
  (K (.int .i64 (-1)) w1)
  (Calls Try.prog 80 #[.pointer x0_, .int .i64 b_] w1 fun e w3 => ∃ r4 : Bool, e = .returned (.bool r4) ∧ 
  cnd (!r4)
  (K (.int .i64 (-1)) w3)
  (cnd ((imin a_ b_) == (0 : Int))
    (K (.int .i64 0) w3)
    (cnd ((IntKind.i64.wrap ((BitVec.ofInt (IntKind.bits .i64) (imin a_ b_) ^^^ BitVec.ofInt (IntKind.bits .i64) (1 : Int)).toNat)) == (imax a_ b_))
    (K (.int .i64 0) w3)
    (cnd ((imin a_ b_) == (1 : Int))
      (K (.int .i64 (imax a_ b_)) w3)
      (cnd ((imin a_ b_) == (imax a_ b_))
      (K (.int .i64 (imax a_ b_)) w3)
      (Calls Try.prog 105 #[.pointer x0_, .int .i64 (imin a_ b_), .int .i64 (imax a_ b_)] w3 fun e w5 => ∃ r6 : Int, ∃ r7 : Bool, e = .returned (.tuple #[.int .i64 r6, .bool r7]) ∧ 
        cnd r7
        (K (.int .i64 r6) w5)
        (Calls Try.prog 105 #[.pointer x0_, .int .i64 (imax a_ b_), .int .i64 (imin a_ b_)] w5 fun e w8 => ∃ r9 : Int, ∃ r10 : Bool, e = .returned (.tuple #[.int .i64 r9, .bool r10]) ∧ 
          cnd r10
          (K (.int .i64 r9) w8)
          (Calls Try.prog 106 #[.pointer x0_, .int .i64 (imin a_ b_), .int .i64 (imax a_ b_)] w8 fun e w11 => ∃ r12 : Int, ∃ r13 : Bool, e = .returned (.tuple #[.int .i64 r12, .bool r13]) ∧ 
            cnd r13
            (K (.int .i64 r12) w11)
            (Calls Try.prog 106 #[.pointer x0_, .int .i64 (imax a_ b_), .int .i64 (imin a_ b_)] w11 fun e w14 => ∃ r15 : Int, ∃ r16 : Bool, e = .returned (.tuple #[.int .i64 r15, .bool r16]) ∧ 
              cnd r16
              (K (.int .i64 r15) w14)
              (∀ (n17 : Nat) (w18 : World), New (.cells #[.int .i64 0, .int .i64 0] 76) w14 n17 w18 → 
                ∃ w19 : World, StoreAt (Addr.mk n17 0 none) 0 [.int .i64 (imin a_ b_), .int .i64 (imax a_ b_)] w18 w19 ∧ 
                ∃ a20 : Addr, x0_ = some a20 ∧ ∃ x21 : Option Nat, w19.drew.cell? (a20.add 1) = some (.map x21) ∧ 
                ∃ x22 : Int, ∃ x23 : Int, CellsAt w19.drew (Addr.mk n17 0 none) 0 [.int .i64 x22, .int .i64 x23] ∧ 
                ∃ w24 : World, ∃ r25 : Int, ∃ r26 : Bool, (Instr.lookup 89 (.map x21) (.agg #[.int .i64 x22, .int .i64 x23]) true).run Try.prog w19.drew = .ok (.tuple #[.int .i64 r25, .bool r26]) w24 ∧ 
                cnd r26
                (K (.int .i64 r25) w24)
                (∃ x27 : Int, ∃ x28 : Int, CellsAt w24 (Addr.mk n17 0 none) 0 [.int .i64 x27, .int .i64 x28] ∧ 
                  Calls Try.prog 71 #[.pointer x0_, .agg #[.int .i64 x27, .int .i64 x28]] w24 fun e w29 => ∃ r30 : Int, e = .returned (.int .i64 r30) ∧ 
                  cnd (r30 != (-1))
                  (∃ a31 : Addr, x0_ = some a31 ∧ ∃ x32 : Option Nat, w29.drew.cell? (a31.add 1) = some (.map x32) ∧ 
                    ∃ x33 : Int, ∃ x34 : Int, CellsAt w29.drew (Addr.mk n17 0 none) 0 [.int .i64 x33, .int .i64 x34] ∧ 
                    ∃ w35 : World, (Instr.mapUpdate 89 (.map x32) (.agg #[.int .i64 x33, .int .i64 x34]) (.int .i64 r30)).run Try.prog w29.drew = .ok () w35 ∧ 
                    K (.int .i64 r30) w35)
                  (K (.int .i64 r30) w29))))))))))))
theorem aig_Aig_And.eq (x0_ : Option Addr) (a_ : Int) (b_ : Int) (w : World) (K : Value → World → Prop) : wpF Try.prog Try.f101 .leaf [.pointer x0_, .int .i64 a_, .int .i64 b_] w K = aig_Aig_And.w x0_ a_ b_ w K := by kernel_rfl
theorem aig_Aig_And.ok : fnOk Try.prog Try.f101 3 = true := by kernel_rfl
theorem aig_Aig_And.calls {x0_ : Option Addr} {a_ : Int} {b_ : Int} {w : World} {R : Ending → World → Prop} (h : aig_Aig_And.w x0_ a_ b_ w fun v w' => R (.returned v) w') : Calls Try.prog 101 #[.pointer x0_, .int .i64 a_, .int .i64 b_] w R :=
  calls_of mixed Try.func101 aig_Aig_And.ok rfl (fun K => aig_Aig_And.eq x0_ a_ b_ w K) h

/-! ### slices.Contains[[]int,int]: function 102 (named slots 5) -/
def slices_Contains_int_int.w (s__p : Option Addr) (s__n : Nat) (s__c : Nat) (v_ : Int) (w : World) (K : Value → World → Prop) : Prop :=
  Calls Try.prog 107 #[.slice s__p s__n s__c, .int .i64 v_] w fun e w1 => ∃ r2 : Int, e = .returned (.int .i64 r2) ∧ 
  K (.bool (decide (r2 ≥ (0 : Int)))) w1
theorem slices_Contains_int_int.eq (s__p : Option Addr) (s__n : Nat) (s__c : Nat) (v_ : Int) (w : World) (K : Value → World → Prop) : wpF Try.prog Try.f102 .leaf [.slice s__p s__n s__c, .int .i64 v_] w K = slices_Contains_int_int.w s__p s__n s__c v_ w K := by kernel_rfl
theorem slices_Contains_int_int.ok : fnOk Try.prog Try.f102 2 = true := by kernel_rfl
theorem slices_Contains_int_int.calls {s__p : Option Addr} {s__n : Nat} {s__c : Nat} {v_ : Int} {w : World} {R : Ending → World → Prop} (h : slices_Contains_int_int.w s__p s__n s__c v_ w fun v w' => R (.returned v) w') : Calls Try.prog 102 #[.slice s__p s__n s__c, .int .i64 v_] w R :=
  calls_of mixed Try.func102 slices_Contains_int_int.ok rfl (fun K => slices_Contains_int_int.eq s__p s__n s__c v_ w K) h

/-! ### fathom/vec.Check$1: function 103 (named slots 4) -/
def vec_Check_1.w (l_ : Int) (c0_ : Addr) (w : World) (K : Value → World → Prop) : Prop :=
  ∃ x1 : Option Addr, w.cell? c0_ = some (.pointer x1) ∧ 
  Calls Try.prog 80 #[.pointer x1, .int .i64 l_] w fun e w2 => ∃ r3 : Bool, e = .returned (.bool r3) ∧ 
  K (.bool (!r3)) w2
theorem vec_Check_1.eq (l_ : Int) (c0_ : Addr) (w : World) (K : Value → World → Prop) : wpF Try.prog Try.f103 .leaf [.int .i64 l_, .pointer (some c0_)] w K = vec_Check_1.w l_ c0_ w K := by kernel_rfl
theorem vec_Check_1.ok : fnOk Try.prog Try.f103 2 = true := by kernel_rfl
theorem vec_Check_1.calls {l_ : Int} {c0_ : Addr} {w : World} {R : Ending → World → Prop} (h : vec_Check_1.w l_ c0_ w fun v w' => R (.returned v) w') : Calls Try.prog 103 #[.int .i64 l_, .pointer (some c0_)] w R :=
  calls_of mixed Try.func103 vec_Check_1.ok rfl (fun K => vec_Check_1.eq l_ c0_ w K) h

/-! ### fathom/aig.not: function 104 (named slots 3) -/
def aig_not.w (l_ : Int) (w : World) (K : Value → World → Prop) : Prop :=
  cnd (decide (l_ < (0 : Int)))
  (K (.int .i64 (-1)) w)
  (K (.int .i64 (IntKind.i64.wrap ((BitVec.ofInt (IntKind.bits .i64) l_ ^^^ BitVec.ofInt (IntKind.bits .i64) (1 : Int)).toNat))) w)
theorem aig_not.eq (l_ : Int) (w : World) (K : Value → World → Prop) : wpF Try.prog Try.f104 .leaf [.int .i64 l_] w K = aig_not.w l_ w K := by kernel_rfl
theorem aig_not.ok : fnOk Try.prog Try.f104 1 = true := by kernel_rfl
theorem aig_not.calls {l_ : Int} {w : World} {R : Ending → World → Prop} (h : aig_not.w l_ w fun v w' => R (.returned v) w') : Calls Try.prog 104 #[.int .i64 l_] w R :=
  calls_of mixed Try.func104 aig_not.ok rfl (fun K => aig_not.eq l_ w K) h

/-! ### (*fathom/aig.Aig).plain: function 105 (named slots 11) -/
def aig_Aig_plain.w (x0_ : Option Addr) (a_ : Int) (b_ : Int) (w : World) (K : Value → World → Prop) : Prop :=
  Calls Try.prog 108 #[.pointer x0_, .int .i64 b_] w fun e w1 => ∃ r2 : Int, ∃ r3 : Int, ∃ r4 : Bool, e = .returned (.tuple #[.int .i64 r2, .int .i64 r3, .bool r4]) ∧ 
  cnd (!r4)
  (K (.tuple #[.int .i64 0, .bool false]) w1)
  ((2 : Int) ≠ 0 ∧ cnd ((b_.tmod (2 : Int)) == (1 : Int))
  (K (.tuple #[.int .i64 0, .bool false]) w1)
  (cnd (a_ == r2)
    (K (.tuple #[.int .i64 b_, .bool true]) w1)
    (cnd (a_ == r3)
    (K (.tuple #[.int .i64 b_, .bool true]) w1)
    (cnd ((IntKind.i64.wrap ((BitVec.ofInt (IntKind.bits .i64) a_ ^^^ BitVec.ofInt (IntKind.bits .i64) (1 : Int)).toNat)) == r2)
      (K (.tuple #[.int .i64 0, .bool true]) w1)
      (cnd ((IntKind.i64.wrap ((BitVec.ofInt (IntKind.bits .i64) a_ ^^^ BitVec.ofInt (IntKind.bits .i64) (1 : Int)).toNat)) == r3)
      (K (.tuple #[.int .i64 0, .bool true]) w1)
      (K (.tuple #[.int .i64 0, .bool false]) w1))))))
theorem aig_Aig_plain.eq (x0_ : Option Addr) (a_ : Int) (b_ : Int) (w : World) (K : Value → World → Prop) : wpF Try.prog Try.f105 .leaf [.pointer x0_, .int .i64 a_, .int .i64 b_] w K = aig_Aig_plain.w x0_ a_ b_ w K := by kernel_rfl
theorem aig_Aig_plain.ok : fnOk Try.prog Try.f105 3 = true := by kernel_rfl
theorem aig_Aig_plain.calls {x0_ : Option Addr} {a_ : Int} {b_ : Int} {w : World} {R : Ending → World → Prop} (h : aig_Aig_plain.w x0_ a_ b_ w fun v w' => R (.returned v) w') : Calls Try.prog 105 #[.pointer x0_, .int .i64 a_, .int .i64 b_] w R :=
  calls_of mixed Try.func105 aig_Aig_plain.ok rfl (fun K => aig_Aig_plain.eq x0_ a_ b_ w K) h

/-! ### (*fathom/aig.Aig).turned: function 106 (named slots 11) -/
def aig_Aig_turned.w (x0_ : Option Addr) (a_ : Int) (b_ : Int) (w : World) (K : Value → World → Prop) : Prop :=
  Calls Try.prog 108 #[.pointer x0_, .int .i64 b_] w fun e w1 => ∃ r2 : Int, ∃ r3 : Int, ∃ r4 : Bool, e = .returned (.tuple #[.int .i64 r2, .int .i64 r3, .bool r4]) ∧ 
  cnd (!r4)
  (K (.tuple #[.int .i64 0, .bool false]) w1)
  ((2 : Int) ≠ 0 ∧ cnd ((b_.tmod (2 : Int)) == (0 : Int))
  (K (.tuple #[.int .i64 0, .bool false]) w1)
  (cnd ((IntKind.i64.wrap ((BitVec.ofInt (IntKind.bits .i64) a_ ^^^ BitVec.ofInt (IntKind.bits .i64) (1 : Int)).toNat)) == r2)
    (K (.tuple #[.int .i64 a_, .bool true]) w1)
    (cnd ((IntKind.i64.wrap ((BitVec.ofInt (IntKind.bits .i64) a_ ^^^ BitVec.ofInt (IntKind.bits .i64) (1 : Int)).toNat)) == r3)
    (K (.tuple #[.int .i64 a_, .bool true]) w1)
    (cnd (a_ == r2)
      (Calls Try.prog 101 #[.pointer x0_, .int .i64 a_, .int .i64 (IntKind.i64.wrap ((BitVec.ofInt (IntKind.bits .i64) r3 ^^^ BitVec.ofInt (IntKind.bits .i64) (1 : Int)).toNat))] w1 fun e w5 => ∃ r6 : Int, e = .returned (.int .i64 r6) ∧ 
        K (.tuple #[.int .i64 r6, .bool true]) w5)
      (cnd (a_ == r3)
        (Calls Try.prog 101 #[.pointer x0_, .int .i64 a_, .int .i64 (IntKind.i64.wrap ((BitVec.ofInt (IntKind.bits .i64) r2 ^^^ BitVec.ofInt (IntKind.bits .i64) (1 : Int)).toNat))] w1 fun e w7 => ∃ r8 : Int, e = .returned (.int .i64 r8) ∧ 
          K (.tuple #[.int .i64 r8, .bool true]) w7)
        (K (.tuple #[.int .i64 0, .bool false]) w1))))))
theorem aig_Aig_turned.eq (x0_ : Option Addr) (a_ : Int) (b_ : Int) (w : World) (K : Value → World → Prop) : wpF Try.prog Try.f106 .leaf [.pointer x0_, .int .i64 a_, .int .i64 b_] w K = aig_Aig_turned.w x0_ a_ b_ w K := by kernel_rfl
theorem aig_Aig_turned.ok : fnOk Try.prog Try.f106 3 = true := by kernel_rfl
theorem aig_Aig_turned.calls {x0_ : Option Addr} {a_ : Int} {b_ : Int} {w : World} {R : Ending → World → Prop} (h : aig_Aig_turned.w x0_ a_ b_ w fun v w' => R (.returned v) w') : Calls Try.prog 106 #[.pointer x0_, .int .i64 a_, .int .i64 b_] w R :=
  calls_of mixed Try.func106 aig_Aig_turned.ok rfl (fun K => aig_Aig_turned.eq x0_ a_ b_ w K) h

/-! ### slices.Index[[]int,int]: function 107 (named slots 5) -/
def slices_Index_int_int.w (s__p : Option Addr) (s__n : Nat) (s__c : Nat) (v_ : Int) (w : World) (K : Value → World → Prop) : Prop :=
  ∃ I1 : Int → World → Nat → Prop, (∃ k2, I1 0 w k2) ∧
  ∀ (v4 : Int) (w5 : World) (k2 : Nat) (_ : Fr), I1 v4 w5 k2 →
  cnd (decide (v4 < (s__n : Int)))
    (ixK s__p s__n v4 1 fun a6 =>
      ∃ x7 : Int, w5.cell? a6 = some (.int .i64 x7) ∧ 
      cnd (v_ == x7)
      (K (.int .i64 v4) w5)
      (∃ k3, k3 < k2 ∧ I1 (IntKind.i64.wrap (v4 + (1 : Int))) w5 k3))
    (K (.int .i64 (-1)) w5)
theorem slices_Index_int_int.eq (s__p : Option Addr) (s__n : Nat) (s__c : Nat) (v_ : Int) (w : World) (K : Value → World → Prop) : wpF Try.prog Try.f107 (.two .leaf (.two (.two .leaf (.one (.loop [(8, 3)] .leaf))) .leaf)) [.slice s__p s__n s__c, .int .i64 v_] w K = slices_Index_int_int.w s__p s__n s__c v_ w K := by kernel_rfl
theorem slices_Index_int_int.ok : fnOk Try.prog Try.f107 2 = true := by kernel_rfl
theorem slices_Index_int_int.calls {s__p : Option Addr} {s__n : Nat} {s__c : Nat} {v_ : Int} {w : World} {R : Ending → World → Prop} (h : slices_Index_int_int.w s__p s__n s__c v_ w fun v w' => R (.returned v) w') : Calls Try.prog 107 #[.slice s__p s__n s__c, .int .i64 v_] w R :=
  calls_of mixed Try.func107 slices_Index_int_int.ok rfl (fun K => slices_Index_int_int.eq s__p s__n s__c v_ w K) h

/-! ### (*fathom/aig.Aig).kids: function 108 (named slots 8) -/
def aig_Aig_kids.w (x0_ : Option Addr) (l_ : Int) (w : World) (K : Value → World → Prop) : Prop :=
  cnd (decide (l_ < (2 : Int)))
  (K (.tuple #[.int .i64 0, .int .i64 0, .bool false]) w)
  (∃ a1 : Addr, x0_ = some a1 ∧ ∃ x2_p : Option Addr, ∃ x2_n : Nat, ∃ x2_c : Nat, w.cell? (a1.add 0) = some (.slice x2_p x2_n x2_c) ∧ 
    (2 : Int) ≠ 0 ∧ ixK x2_p x2_n (IntKind.i64.wrap ((IntKind.i64.wrap (l_.tdiv (2 : Int))) - (1 : Int))) 2 fun a3 =>
    ∃ x4 : Int, ∃ x5 : Int, CellsAt w a3 0 [.int .i64 x4, .int .i64 x5] ∧ 
    ∀ (n6 : Nat) (w7 : World), New (.cells #[.int .i64 0, .int .i64 0] 76) w n6 w7 → 
    ∃ w8 : World, StoreAt (Addr.mk n6 0 none) 0 [.int .i64 x4, .int .i64 x5] w7 w8 ∧ 
    (∃ x9 : Int, w8.drew.cell? ((Addr.mk n6 0 none).add 0) = some (.int .i64 x9) ∧ 
    (∃ x10 : Int, w8.drew.cell? ((Addr.mk n6 0 none).add 1) = some (.int .i64 x10) ∧ 
    (∃ x11 : Int, ∃ x12 : Int, CellsAt w8.drew (Addr.mk n6 0 none) 0 [.int .i64 x11, .int .i64 x12] ∧ 
    Calls Try.prog 72 #[] w8.drew fun e w13 => ∃ r14 : Int, ∃ r15 : Int, e = .returned (.agg #[.int .i64 r14, .int .i64 r15]) ∧ 
    ∃ w16 : World, ∃ r17 : Bool, (do eqGuard .neq 76 (.tmp 23) (.tmp 24) (.agg #[.int .i64 x11, .int .i64 x12]) (.agg #[.int .i64 r14, .int .i64 r15]); binOp .neq 76 (.agg #[.int .i64 x11, .int .i64 x12]) (.agg #[.int .i64 r14, .int .i64 r15])).run Try.prog w13 = .ok (.bool r17) w16 ∧ 
    K (.tuple #[.int .i64 x9, .int .i64 x10, .bool r17]) w16) ∧
  (Calls Try.prog 72 #[] w8.drew fun e w18 => ∃ r19 : Int, ∃ r20 : Int, e = .returned (.agg #[.int .i64 r19, .int .i64 r20]) ∧ 
    ∃ x21 : Int, ∃ x22 : Int, CellsAt w18 (Addr.mk n6 0 none) 0 [.int .i64 x21, .int .i64 x22] ∧ 
    ∃ w23 : World, ∃ r24 : Bool, (do eqGuard .neq 76 (.tmp 23) (.tmp 24) (.agg #[.int .i64 x21, .int .i64 x22]) (.agg #[.int .i64 r19, .int .i64 r20]); binOp .neq 76 (.agg #[.int .i64 x21, .int .i64 x22]) (.agg #[.int .i64 r19, .int .i64 r20])).run Try.prog w18 = .ok (.bool r24) w23 ∧ 
    K (.tuple #[.int .i64 x9, .int .i64 x10, .bool r24]) w23)) ∧
  (∃ x25 : Int, ∃ x26 : Int, CellsAt w8.drew (Addr.mk n6 0 none) 0 [.int .i64 x25, .int .i64 x26] ∧ 
    (∃ x27 : Int, w8.drew.cell? ((Addr.mk n6 0 none).add 1) = some (.int .i64 x27) ∧ 
    Calls Try.prog 72 #[] w8.drew fun e w28 => ∃ r29 : Int, ∃ r30 : Int, e = .returned (.agg #[.int .i64 r29, .int .i64 r30]) ∧ 
    ∃ w31 : World, ∃ r32 : Bool, (do eqGuard .neq 76 (.tmp 23) (.tmp 24) (.agg #[.int .i64 x25, .int .i64 x26]) (.agg #[.int .i64 r29, .int .i64 r30]); binOp .neq 76 (.agg #[.int .i64 x25, .int .i64 x26]) (.agg #[.int .i64 r29, .int .i64 r30])).run Try.prog w28 = .ok (.bool r32) w31 ∧ 
    K (.tuple #[.int .i64 x9, .int .i64 x27, .bool r32]) w31) ∧
  (Calls Try.prog 72 #[] w8.drew fun e w33 => ∃ r34 : Int, ∃ r35 : Int, e = .returned (.agg #[.int .i64 r34, .int .i64 r35]) ∧ 
    (∃ x36 : Int, w33.cell? ((Addr.mk n6 0 none).add 1) = some (.int .i64 x36) ∧ 
    ∃ w37 : World, ∃ r38 : Bool, (do eqGuard .neq 76 (.tmp 23) (.tmp 24) (.agg #[.int .i64 x25, .int .i64 x26]) (.agg #[.int .i64 r34, .int .i64 r35]); binOp .neq 76 (.agg #[.int .i64 x25, .int .i64 x26]) (.agg #[.int .i64 r34, .int .i64 r35])).run Try.prog w33 = .ok (.bool r38) w37 ∧ 
    K (.tuple #[.int .i64 x9, .int .i64 x36, .bool r38]) w37) ∧
  (∃ w39 : World, ∃ r40 : Bool, (do eqGuard .neq 76 (.tmp 23) (.tmp 24) (.agg #[.int .i64 x25, .int .i64 x26]) (.agg #[.int .i64 r34, .int .i64 r35]); binOp .neq 76 (.agg #[.int .i64 x25, .int .i64 x26]) (.agg #[.int .i64 r34, .int .i64 r35])).run Try.prog w33 = .ok (.bool r40) w39 ∧ 
    ∃ x41 : Int, w39.cell? ((Addr.mk n6 0 none).add 1) = some (.int .i64 x41) ∧ 
    K (.tuple #[.int .i64 x9, .int .i64 x41, .bool r40]) w39))) ∧
  (Calls Try.prog 72 #[] w8.drew fun e w42 => ∃ r43 : Int, ∃ r44 : Int, e = .returned (.agg #[.int .i64 r43, .int .i64 r44]) ∧ 
    ∃ x45 : Int, ∃ x46 : Int, CellsAt w42 (Addr.mk n6 0 none) 0 [.int .i64 x45, .int .i64 x46] ∧ 
    (∃ x47 : Int, w42.cell? ((Addr.mk n6 0 none).add 1) = some (.int .i64 x47) ∧ 
    ∃ w48 : World, ∃ r49 : Bool, (do eqGuard .neq 76 (.tmp 23) (.tmp 24) (.agg #[.int .i64 x45, .int .i64 x46]) (.agg #[.int .i64 r43, .int .i64 r44]); binOp .neq 76 (.agg #[.int .i64 x45, .int .i64 x46]) (.agg #[.int .i64 r43, .int .i64 r44])).run Try.prog w42 = .ok (.bool r49) w48 ∧ 
    K (.tuple #[.int .i64 x9, .int .i64 x47, .bool r49]) w48) ∧
  (∃ w50 : World, ∃ r51 : Bool, (do eqGuard .neq 76 (.tmp 23) (.tmp 24) (.agg #[.int .i64 x45, .int .i64 x46]) (.agg #[.int .i64 r43, .int .i64 r44]); binOp .neq 76 (.agg #[.int .i64 x45, .int .i64 x46]) (.agg #[.int .i64 r43, .int .i64 r44])).run Try.prog w42 = .ok (.bool r51) w50 ∧ 
    ∃ x52 : Int, w50.cell? ((Addr.mk n6 0 none).add 1) = some (.int .i64 x52) ∧ 
    K (.tuple #[.int .i64 x9, .int .i64 x52, .bool r51]) w50))) ∧
  (∃ x53 : Int, w8.drew.cell? ((Addr.mk n6 0 none).add 1) = some (.int .i64 x53) ∧ 
    (∃ x54 : Int, w8.drew.cell? ((Addr.mk n6 0 none).add 0) = some (.int .i64 x54) ∧ 
    (∃ x55 : Int, ∃ x56 : Int, CellsAt w8.drew (Addr.mk n6 0 none) 0 [.int .i64 x55, .int .i64 x56] ∧ 
    Calls Try.prog 72 #[] w8.drew fun e w57 => ∃ r58 : Int, ∃ r59 : Int, e = .returned (.agg #[.int .i64 r58, .int .i64 r59]) ∧ 
    ∃ w60 : World, ∃ r61 : Bool, (do eqGuard .neq 76 (.tmp 23) (.tmp 24) (.agg #[.int .i64 x55, .int .i64 x56]) (.agg #[.int .i64 r58, .int .i64 r59]); binOp .neq 76 (.agg #[.int .i64 x55, .int .i64 x56]) (.agg #[.int .i64 r58, .int .i64 r59])).run Try.prog w57 = .ok (.bool r61) w60 ∧ 
    K (.tuple #[.int .i64 x54, .int .i64 x53, .bool r61]) w60) ∧
  (Calls Try.prog 72 #[] w8.drew fun e w62 => ∃ r63 : Int, ∃ r64 : Int, e = .returned (.agg #[.int .i64 r63, .int .i64 r64]) ∧ 
    ∃ x65 : Int, ∃ x66 : Int, CellsAt w62 (Addr.mk n6 0 none) 0 [.int .i64 x65, .int .i64 x66] ∧ 
    ∃ w67 : World, ∃ r68 : Bool, (do eqGuard .neq 76 (.tmp 23) (.tmp 24) (.agg #[.int .i64 x65, .int .i64 x66]) (.agg #[.int .i64 r63, .int .i64 r64]); binOp .neq 76 (.agg #[.int .i64 x65, .int .i64 x66]) (.agg #[.int .i64 r63, .int .i64 r64])).run Try.prog w62 = .ok (.bool r68) w67 ∧ 
    K (.tuple #[.int .i64 x54, .int .i64 x53, .bool r68]) w67)) ∧
  (∃ x69 : Int, ∃ x70 : Int, CellsAt w8.drew (Addr.mk n6 0 none) 0 [.int .i64 x69, .int .i64 x70] ∧ 
    (∃ x71 : Int, w8.drew.cell? ((Addr.mk n6 0 none).add 0) = some (.int .i64 x71) ∧ 
    Calls Try.prog 72 #[] w8.drew fun e w72 => ∃ r73 : Int, ∃ r74 : Int, e = .returned (.agg #[.int .i64 r73, .int .i64 r74]) ∧ 
    ∃ w75 : World, ∃ r76 : Bool, (do eqGuard .neq 76 (.tmp 23) (.tmp 24) (.agg #[.int .i64 x69, .int .i64 x70]) (.agg #[.int .i64 r73, .int .i64 r74]); binOp .neq 76 (.agg #[.int .i64 x69, .int .i64 x70]) (.agg #[.int .i64 r73, .int .i64 r74])).run Try.prog w72 = .ok (.bool r76) w75 ∧ 
    K (.tuple #[.int .i64 x71, .int .i64 x53, .bool r76]) w75) ∧
  (Calls Try.prog 72 #[] w8.drew fun e w77 => ∃ r78 : Int, ∃ r79 : Int, e = .returned (.agg #[.int .i64 r78, .int .i64 r79]) ∧ 
    (∃ x80 : Int, w77.cell? ((Addr.mk n6 0 none).add 0) = some (.int .i64 x80) ∧ 
    ∃ w81 : World, ∃ r82 : Bool, (do eqGuard .neq 76 (.tmp 23) (.tmp 24) (.agg #[.int .i64 x69, .int .i64 x70]) (.agg #[.int .i64 r78, .int .i64 r79]); binOp .neq 76 (.agg #[.int .i64 x69, .int .i64 x70]) (.agg #[.int .i64 r78, .int .i64 r79])).run Try.prog w77 = .ok (.bool r82) w81 ∧ 
    K (.tuple #[.int .i64 x80, .int .i64 x53, .bool r82]) w81) ∧
  (∃ w83 : World, ∃ r84 : Bool, (do eqGuard .neq 76 (.tmp 23) (.tmp 24) (.agg #[.int .i64 x69, .int .i64 x70]) (.agg #[.int .i64 r78, .int .i64 r79]); binOp .neq 76 (.agg #[.int .i64 x69, .int .i64 x70]) (.agg #[.int .i64 r78, .int .i64 r79])).run Try.prog w77 = .ok (.bool r84) w83 ∧ 
    ∃ x85 : Int, w83.cell? ((Addr.mk n6 0 none).add 0) = some (.int .i64 x85) ∧ 
    K (.tuple #[.int .i64 x85, .int .i64 x53, .bool r84]) w83))) ∧
  (Calls Try.prog 72 #[] w8.drew fun e w86 => ∃ r87 : Int, ∃ r88 : Int, e = .returned (.agg #[.int .i64 r87, .int .i64 r88]) ∧ 
    ∃ x89 : Int, ∃ x90 : Int, CellsAt w86 (Addr.mk n6 0 none) 0 [.int .i64 x89, .int .i64 x90] ∧ 
    (∃ x91 : Int, w86.cell? ((Addr.mk n6 0 none).add 0) = some (.int .i64 x91) ∧ 
    ∃ w92 : World, ∃ r93 : Bool, (do eqGuard .neq 76 (.tmp 23) (.tmp 24) (.agg #[.int .i64 x89, .int .i64 x90]) (.agg #[.int .i64 r87, .int .i64 r88]); binOp .neq 76 (.agg #[.int .i64 x89, .int .i64 x90]) (.agg #[.int .i64 r87, .int .i64 r88])).run Try.prog w86 = .ok (.bool r93) w92 ∧ 
    K (.tuple #[.int .i64 x91, .int .i64 x53, .bool r93]) w92) ∧
  (∃ w94 : World, ∃ r95 : Bool, (do eqGuard .neq 76 (.tmp 23) (.tmp 24) (.agg #[.int .i64 x89, .int .i64 x90]) (.agg #[.int .i64 r87, .int .i64 r88]); binOp .neq 76 (.agg #[.int .i64 x89, .int .i64 x90]) (.agg #[.int .i64 r87, .int .i64 r88])).run Try.prog w86 = .ok (.bool r95) w94 ∧ 
    ∃ x96 : Int, w94.cell? ((Addr.mk n6 0 none).add 0) = some (.int .i64 x96) ∧ 
    K (.tuple #[.int .i64 x96, .int .i64 x53, .bool r95]) w94))) ∧
  (∃ x97 : Int, ∃ x98 : Int, CellsAt w8.drew (Addr.mk n6 0 none) 0 [.int .i64 x97, .int .i64 x98] ∧ 
    (∃ x99 : Int, w8.drew.cell? ((Addr.mk n6 0 none).add 0) = some (.int .i64 x99) ∧ 
    (∃ x100 : Int, w8.drew.cell? ((Addr.mk n6 0 none).add 1) = some (.int .i64 x100) ∧ 
    Calls Try.prog 72 #[] w8.drew fun e w101 => ∃ r102 : Int, ∃ r103 : Int, e = .returned (.agg #[.int .i64 r102, .int .i64 r103]) ∧ 
    ∃ w104 : World, ∃ r105 : Bool, (do eqGuard .neq 76 (.tmp 23) (.tmp 24) (.agg #[.int .i64 x97, .int .i64 x98]) (.agg #[.int .i64 r102, .int .i64 r103]); binOp .neq 76 (.agg #[.int .i64 x97, .int .i64 x98]) (.agg #[.int .i64 r102, .int .i64 r103])).run Try.prog w101 = .ok (.bool r105) w104 ∧ 
    K (.tuple #[.int .i64 x99, .int .i64 x100, .bool r105]) w104) ∧
  (Calls Try.prog 72 #[] w8.drew fun e w106 => ∃ r107 : Int, ∃ r108 : Int, e = .returned (.agg #[.int .i64 r107, .int .i64 r108]) ∧ 
    (∃ x109 : Int, w106.cell? ((Addr.mk n6 0 none).add 1) = some (.int .i64 x109) ∧ 
    ∃ w110 : World, ∃ r111 : Bool, (do eqGuard .neq 76 (.tmp 23) (.tmp 24) (.agg #[.int .i64 x97, .int .i64 x98]) (.agg #[.int .i64 r107, .int .i64 r108]); binOp .neq 76 (.agg #[.int .i64 x97, .int .i64 x98]) (.agg #[.int .i64 r107, .int .i64 r108])).run Try.prog w106 = .ok (.bool r111) w110 ∧ 
    K (.tuple #[.int .i64 x99, .int .i64 x109, .bool r111]) w110) ∧
  (∃ w112 : World, ∃ r113 : Bool, (do eqGuard .neq 76 (.tmp 23) (.tmp 24) (.agg #[.int .i64 x97, .int .i64 x98]) (.agg #[.int .i64 r107, .int .i64 r108]); binOp .neq 76 (.agg #[.int .i64 x97, .int .i64 x98]) (.agg #[.int .i64 r107, .int .i64 r108])).run Try.prog w106 = .ok (.bool r113) w112 ∧ 
    ∃ x114 : Int, w112.cell? ((Addr.mk n6 0 none).add 1) = some (.int .i64 x114) ∧ 
    K (.tuple #[.int .i64 x99, .int .i64 x114, .bool r113]) w112))) ∧
  (∃ x115 : Int, w8.drew.cell? ((Addr.mk n6 0 none).add 1) = some (.int .i64 x115) ∧ 
    (∃ x116 : Int, w8.drew.cell? ((Addr.mk n6 0 none).add 0) = some (.int .i64 x116) ∧ 
    Calls Try.prog 72 #[] w8.drew fun e w117 => ∃ r118 : Int, ∃ r119 : Int, e = .returned (.agg #[.int .i64 r118, .int .i64 r119]) ∧ 
    ∃ w120 : World, ∃ r121 : Bool, (do eqGuard .neq 76 (.tmp 23) (.tmp 24) (.agg #[.int .i64 x97, .int .i64 x98]) (.agg #[.int .i64 r118, .int .i64 r119]); binOp .neq 76 (.agg #[.int .i64 x97, .int .i64 x98]) (.agg #[.int .i64 r118, .int .i64 r119])).run Try.prog w117 = .ok (.bool r121) w120 ∧ 
    K (.tuple #[.int .i64 x116, .int .i64 x115, .bool r121]) w120) ∧
  (Calls Try.prog 72 #[] w8.drew fun e w122 => ∃ r123 : Int, ∃ r124 : Int, e = .returned (.agg #[.int .i64 r123, .int .i64 r124]) ∧ 
    (∃ x125 : Int, w122.cell? ((Addr.mk n6 0 none).add 0) = some (.int .i64 x125) ∧ 
    ∃ w126 : World, ∃ r127 : Bool, (do eqGuard .neq 76 (.tmp 23) (.tmp 24) (.agg #[.int .i64 x97, .int .i64 x98]) (.agg #[.int .i64 r123, .int .i64 r124]); binOp .neq 76 (.agg #[.int .i64 x97, .int .i64 x98]) (.agg #[.int .i64 r123, .int .i64 r124])).run Try.prog w122 = .ok (.bool r127) w126 ∧ 
    K (.tuple #[.int .i64 x125, .int .i64 x115, .bool r127]) w126) ∧
  (∃ w128 : World, ∃ r129 : Bool, (do eqGuard .neq 76 (.tmp 23) (.tmp 24) (.agg #[.int .i64 x97, .int .i64 x98]) (.agg #[.int .i64 r123, .int .i64 r124]); binOp .neq 76 (.agg #[.int .i64 x97, .int .i64 x98]) (.agg #[.int .i64 r123, .int .i64 r124])).run Try.prog w122 = .ok (.bool r129) w128 ∧ 
    ∃ x130 : Int, w128.cell? ((Addr.mk n6 0 none).add 0) = some (.int .i64 x130) ∧ 
    K (.tuple #[.int .i64 x130, .int .i64 x115, .bool r129]) w128))) ∧
  (Calls Try.prog 72 #[] w8.drew fun e w131 => ∃ r132 : Int, ∃ r133 : Int, e = .returned (.agg #[.int .i64 r132, .int .i64 r133]) ∧ 
    (∃ x134 : Int, w131.cell? ((Addr.mk n6 0 none).add 0) = some (.int .i64 x134) ∧ 
    (∃ x135 : Int, w131.cell? ((Addr.mk n6 0 none).add 1) = some (.int .i64 x135) ∧ 
    ∃ w136 : World, ∃ r137 : Bool, (do eqGuard .neq 76 (.tmp 23) (.tmp 24) (.agg #[.int .i64 x97, .int .i64 x98]) (.agg #[.int .i64 r132, .int .i64 r133]); binOp .neq 76 (.agg #[.int .i64 x97, .int .i64 x98]) (.agg #[.int .i64 r132, .int .i64 r133])).run Try.prog w131 = .ok (.bool r137) w136 ∧ 
    K (.tuple #[.int .i64 x134, .int .i64 x135, .bool r137]) w136) ∧
  (∃ w138 : World, ∃ r139 : Bool, (do eqGuard .neq 76 (.tmp 23) (.tmp 24) (.agg #[.int .i64 x97, .int .i64 x98]) (.agg #[.int .i64 r132, .int .i64 r133]); binOp .neq 76 (.agg #[.int .i64 x97, .int .i64 x98]) (.agg #[.int .i64 r132, .int .i64 r133])).run Try.prog w131 = .ok (.bool r139) w138 ∧ 
    ∃ x140 : Int, w138.cell? ((Addr.mk n6 0 none).add 1) = some (.int .i64 x140) ∧ 
    K (.tuple #[.int .i64 x134, .int .i64 x140, .bool r139]) w138)) ∧
  (∃ x141 : Int, w131.cell? ((Addr.mk n6 0 none).add 1) = some (.int .i64 x141) ∧ 
    (∃ x142 : Int, w131.cell? ((Addr.mk n6 0 none).add 0) = some (.int .i64 x142) ∧ 
    ∃ w143 : World, ∃ r144 : Bool, (do eqGuard .neq 76 (.tmp 23) (.tmp 24) (.agg #[.int .i64 x97, .int .i64 x98]) (.agg #[.int .i64 r132, .int .i64 r133]); binOp .neq 76 (.agg #[.int .i64 x97, .int .i64 x98]) (.agg #[.int .i64 r132, .int .i64 r133])).run Try.prog w131 = .ok (.bool r144) w143 ∧ 
    K (.tuple #[.int .i64 x142, .int .i64 x141, .bool r144]) w143) ∧
  (∃ w145 : World, ∃ r146 : Bool, (do eqGuard .neq 76 (.tmp 23) (.tmp 24) (.agg #[.int .i64 x97, .int .i64 x98]) (.agg #[.int .i64 r132, .int .i64 r133]); binOp .neq 76 (.agg #[.int .i64 x97, .int .i64 x98]) (.agg #[.int .i64 r132, .int .i64 r133])).run Try.prog w131 = .ok (.bool r146) w145 ∧ 
    ∃ x147 : Int, w145.cell? ((Addr.mk n6 0 none).add 0) = some (.int .i64 x147) ∧ 
    K (.tuple #[.int .i64 x147, .int .i64 x141, .bool r146]) w145)) ∧
  (∃ w148 : World, ∃ r149 : Bool, (do eqGuard .neq 76 (.tmp 23) (.tmp 24) (.agg #[.int .i64 x97, .int .i64 x98]) (.agg #[.int .i64 r132, .int .i64 r133]); binOp .neq 76 (.agg #[.int .i64 x97, .int .i64 x98]) (.agg #[.int .i64 r132, .int .i64 r133])).run Try.prog w131 = .ok (.bool r149) w148 ∧ 
    ∃ x150 : Int, w148.cell? ((Addr.mk n6 0 none).add 0) = some (.int .i64 x150) ∧ 
    ∃ x151 : Int, w148.cell? ((Addr.mk n6 0 none).add 1) = some (.int .i64 x151) ∧ 
    K (.tuple #[.int .i64 x150, .int .i64 x151, .bool r149]) w148))) ∧
  (Calls Try.prog 72 #[] w8.drew fun e w152 => ∃ r153 : Int, ∃ r154 : Int, e = .returned (.agg #[.int .i64 r153, .int .i64 r154]) ∧ 
    ∃ x155 : Int, ∃ x156 : Int, CellsAt w152 (Addr.mk n6 0 none) 0 [.int .i64 x155, .int .i64 x156] ∧ 
    (∃ x157 : Int, w152.cell? ((Addr.mk n6 0 none).add 0) = some (.int .i64 x157) ∧ 
    (∃ x158 : Int, w152.cell? ((Addr.mk n6 0 none).add 1) = some (.int .i64 x158) ∧ 
    ∃ w159 : World, ∃ r160 : Bool, (do eqGuard .neq 76 (.tmp 23) (.tmp 24) (.agg #[.int .i64 x155, .int .i64 x156]) (.agg #[.int .i64 r153, .int .i64 r154]); binOp .neq 76 (.agg #[.int .i64 x155, .int .i64 x156]) (.agg #[.int .i64 r153, .int .i64 r154])).run Try.prog w152 = .ok (.bool r160) w159 ∧ 
    K (.tuple #[.int .i64 x157, .int .i64 x158, .bool r160]) w159) ∧
  (∃ w161 : World, ∃ r162 : Bool, (do eqGuard .neq 76 (.tmp 23) (.tmp 24) (.agg #[.int .i64 x155, .int .i64 x156]) (.agg #[.int .i64 r153, .int .i64 r154]); binOp .neq 76 (.agg #[.int .i64 x155, .int .i64 x156]) (.agg #[.int .i64 r153, .int .i64 r154])).run Try.prog w152 = .ok (.bool r162) w161 ∧ 
    ∃ x163 : Int, w161.cell? ((Addr.mk n6 0 none).add 1) = some (.int .i64 x163) ∧ 
    K (.tuple #[.int .i64 x157, .int .i64 x163, .bool r162]) w161)) ∧
  (∃ x164 : Int, w152.cell? ((Addr.mk n6 0 none).add 1) = some (.int .i64 x164) ∧ 
    (∃ x165 : Int, w152.cell? ((Addr.mk n6 0 none).add 0) = some (.int .i64 x165) ∧ 
    ∃ w166 : World, ∃ r167 : Bool, (do eqGuard .neq 76 (.tmp 23) (.tmp 24) (.agg #[.int .i64 x155, .int .i64 x156]) (.agg #[.int .i64 r153, .int .i64 r154]); binOp .neq 76 (.agg #[.int .i64 x155, .int .i64 x156]) (.agg #[.int .i64 r153, .int .i64 r154])).run Try.prog w152 = .ok (.bool r167) w166 ∧ 
    K (.tuple #[.int .i64 x165, .int .i64 x164, .bool r167]) w166) ∧
  (∃ w168 : World, ∃ r169 : Bool, (do eqGuard .neq 76 (.tmp 23) (.tmp 24) (.agg #[.int .i64 x155, .int .i64 x156]) (.agg #[.int .i64 r153, .int .i64 r154]); binOp .neq 76 (.agg #[.int .i64 x155, .int .i64 x156]) (.agg #[.int .i64 r153, .int .i64 r154])).run Try.prog w152 = .ok (.bool r169) w168 ∧ 
    ∃ x170 : Int, w168.cell? ((Addr.mk n6 0 none).add 0) = some (.int .i64 x170) ∧ 
    K (.tuple #[.int .i64 x170, .int .i64 x164, .bool r169]) w168)) ∧
  (∃ w171 : World, ∃ r172 : Bool, (do eqGuard .neq 76 (.tmp 23) (.tmp 24) (.agg #[.int .i64 x155, .int .i64 x156]) (.agg #[.int .i64 r153, .int .i64 r154]); binOp .neq 76 (.agg #[.int .i64 x155, .int .i64 x156]) (.agg #[.int .i64 r153, .int .i64 r154])).run Try.prog w152 = .ok (.bool r172) w171 ∧ 
    ∃ x173 : Int, w171.cell? ((Addr.mk n6 0 none).add 0) = some (.int .i64 x173) ∧ 
    ∃ x174 : Int, w171.cell? ((Addr.mk n6 0 none).add 1) = some (.int .i64 x174) ∧ 
    K (.tuple #[.int .i64 x173, .int .i64 x174, .bool r172]) w171)))
theorem aig_Aig_kids.eq (x0_ : Option Addr) (l_ : Int) (w : World) (K : Value → World → Prop) : wpF Try.prog Try.f108 .leaf [.pointer x0_, .int .i64 l_] w K = aig_Aig_kids.w x0_ l_ w K := by kernel_rfl
theorem aig_Aig_kids.ok : fnOk Try.prog Try.f108 2 = true := by kernel_rfl
theorem aig_Aig_kids.calls {x0_ : Option Addr} {l_ : Int} {w : World} {R : Ending → World → Prop} (h : aig_Aig_kids.w x0_ l_ w fun v w' => R (.returned v) w') : Calls Try.prog 108 #[.pointer x0_, .int .i64 l_] w R :=
  calls_of mixed Try.func108 aig_Aig_kids.ok rfl (fun K => aig_Aig_kids.eq x0_ l_ w K) h

end Go.Proofs.Ytambabpklfeaoaa.W
