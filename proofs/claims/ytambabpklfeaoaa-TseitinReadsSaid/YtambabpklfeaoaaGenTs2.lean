/- The functions that the statements reach, printed as what the frame asks of them, each checked by the kernel against the loaded text. -/
import Derived.Test.YtambabpklfeaoaaProg
import Derived.Test.YtambabpklfeaoaaFwSound
namespace Go.Proofs.Ytambabpklfeaoaa.W
open Go Go.Fw Go.Proofs
set_option linter.unusedVariables false

theorem mixed : Try.prog.follows .mixedOrders = true := by kernel_rfl

abbrev fathomlaw19_RankSorts.id : FuncId := 3
abbrev fathomlaw19_RankCloses.id : FuncId := 4
abbrev fathomlaw18_TseitinBuilds.id : FuncId := 5
abbrev fathomlaw19_RankReaches.id : FuncId := 6
abbrev fathomlaw18_TseitinMeans.id : FuncId := 7
abbrev fathomlaw18_TseitinReads.id : FuncId := 8
abbrev fathomlaw19_RankRefuses.id : FuncId := 9
abbrev fathomlaw19_RankOrders.id : FuncId := 10
abbrev fathomlaw19_awake.id : FuncId := 11
abbrev rank_Sorted.id : FuncId := 12
abbrev fathomref19_Square.id : FuncId := 13
abbrev fathomref19_Order.id : FuncId := 14
abbrev rank_Closure.id : FuncId := 15
abbrev fathomlaw19_filled.id : FuncId := 16
abbrev fathomref19_Closed.id : FuncId := 17
abbrev fathomref19_Reaches.id : FuncId := 18
abbrev fathomlaw18_light.id : FuncId := 19
abbrev fathomlaw18_awake.id : FuncId := 20
abbrev tseitin_Build.id : FuncId := 21
abbrev fathomref18_May.id : FuncId := 22
abbrev fathomref01_Same.id : FuncId := 23
abbrev fathomref18_Build.id : FuncId := 24
abbrev fathomref01_Ints.id : FuncId := 25
abbrev tseitin_Code.id : FuncId := 26
abbrev aig_New.id : FuncId := 27
abbrev rank_Reach.id : FuncId := 28
abbrev aig_Aig_Len.id : FuncId := 29
abbrev rank_Edges.id : FuncId := 30
abbrev fathomref18_Asked.id : FuncId := 31
abbrev aig_Aig_Nodes.id : FuncId := 32
abbrev fathomref01_Model.id : FuncId := 33
abbrev tseitin_Ins.id : FuncId := 34
abbrev fathomref01_Value.id : FuncId := 35
abbrev fathomref15_True.id : FuncId := 36
abbrev fathomref01_Holds.id : FuncId := 37
abbrev fathomref15_May.id : FuncId := 38
abbrev tseitin_Asked.id : FuncId := 39
abbrev fathomref18_Ins.id : FuncId := 40
abbrev aig_Aig_In.id : FuncId := 41
abbrev rank_Order.id : FuncId := 42
abbrev rank_Places.id : FuncId := 43
abbrev fathomref01_Has.id : FuncId := 44
abbrev aig_Eval.id : FuncId := 45
abbrev vec_Number.id : FuncId := 46
abbrev rank_squared.id : FuncId := 47
abbrev slices_Clone_bool_bool.id : FuncId := 48
abbrev tseitin_may.id : FuncId := 49
abbrev tseitin_cone.id : FuncId := 50
abbrev tseitin_and.id : FuncId := 51
abbrev tseitin_builder_add.id : FuncId := 52
abbrev lit_CheckCnf.id : FuncId := 53
abbrev fathomref15_Is.id : FuncId := 54
abbrev fathomref01_Lists.id : FuncId := 55
abbrev fathomref18_Hangs.id : FuncId := 56
abbrev fathomref15_Not.id : FuncId := 57
abbrev fathomref18_clause.id : FuncId := 58
abbrev rank_room.id : FuncId := 59
abbrev rank_square.id : FuncId := 60
abbrev rank_is.id : FuncId := 61
abbrev slices_Clone_fathom_api_Gate_fathom_api_Gate.id : FuncId := 62
abbrev aig_Check.id : FuncId := 63
abbrev lit_Value.id : FuncId := 64
abbrev fathomref01_Lit.id : FuncId := 65
abbrev fathomref01_Var.id : FuncId := 66
abbrev fathomref01_Clause.id : FuncId := 67
abbrev slices_ContainsFunc_int_int.id : FuncId := 68
abbrev tseitin_Asked_1.id : FuncId := 69
abbrev aig_Value.id : FuncId := 70
abbrev aig_Aig_add.id : FuncId := 71
abbrev aig_input.id : FuncId := 72
abbrev card_Count.id : FuncId := 73
abbrev slices_ContainsFunc_bool_bool.id : FuncId := 74
abbrev rank_squared_1.id : FuncId := 75
abbrev tseitin_may_1.id : FuncId := 76
abbrev lit_Check.id : FuncId := 77
abbrev lit_CheckCnf_1.id : FuncId := 78
abbrev lit_amount.id : FuncId := 79
abbrev aig_Aig_Is.id : FuncId := 80
abbrev rank_is_1.id : FuncId := 81
abbrev lit_is.id : FuncId := 82
abbrev slices_IndexFunc_int_int.id : FuncId := 83
abbrev card_may.id : FuncId := 84
abbrev card_count.id : FuncId := 85
abbrev slices_IndexFunc_bool_bool.id : FuncId := 86
abbrev lit_Check_1.id : FuncId := 87
abbrev card_may_1.id : FuncId := 88
abbrev card_Enough.id : FuncId := 89
abbrev vec_Add.id : FuncId := 90
abbrev card_wide.id : FuncId := 91
abbrev bits_Len.id : FuncId := 92
abbrev vec_pair.id : FuncId := 93
abbrev vec_sum.id : FuncId := 94
abbrev vec_whole.id : FuncId := 95
abbrev bits_Len32.id : FuncId := 96
abbrev bits_Len64.id : FuncId := 97
abbrev vec_Check.id : FuncId := 98
abbrev aig_Aig_Xor.id : FuncId := 99
abbrev aig_Aig_Or.id : FuncId := 100
abbrev aig_Aig_And.id : FuncId := 101
abbrev slices_Contains_int_int.id : FuncId := 102
abbrev vec_Check_1.id : FuncId := 103
abbrev aig_not.id : FuncId := 104
abbrev aig_Aig_plain.id : FuncId := 105
abbrev aig_Aig_turned.id : FuncId := 106
abbrev slices_Index_int_int.id : FuncId := 107
abbrev aig_Aig_kids.id : FuncId := 108
abbrev ty_int64 : TypeId := 2
theorem ty_int64.und : Try.prog.underlying 2 = some (.int .i64) := by kernel_rfl
theorem ty_int64.info : (Try.prog.info? 2).map (fun i => (i.zero, i.size, i.bytes)) = some (some (.int .i64 0), 1, 8) := by kernel_rfl
abbrev ty_int : TypeId := 3
theorem ty_int.und : Try.prog.underlying 3 = some (.int .i64) := by kernel_rfl
theorem ty_int.info : (Try.prog.info? 3).map (fun i => (i.zero, i.size, i.bytes)) = some (some (.int .i64 0), 1, 8) := by kernel_rfl
abbrev ty_bool : TypeId := 4
theorem ty_bool.und : Try.prog.underlying 4 = some .bool := by kernel_rfl
theorem ty_bool.info : (Try.prog.info? 4).map (fun i => (i.zero, i.size, i.bytes)) = some (some (.bool false), 1, 1) := by kernel_rfl
abbrev ty_uint8 : TypeId := 5
theorem ty_uint8.und : Try.prog.underlying 5 = some (.int .u8) := by kernel_rfl
theorem ty_uint8.info : (Try.prog.info? 5).map (fun i => (i.zero, i.size, i.bytes)) = some (some (.int .u8 0), 1, 1) := by kernel_rfl
abbrev ty_abi_BoundsErrorCode : TypeId := 6
theorem ty_abi_BoundsErrorCode.und : Try.prog.underlying 6 = some (.int .u8) := by kernel_rfl
theorem ty_abi_BoundsErrorCode.info : (Try.prog.info? 6).map (fun i => (i.zero, i.size, i.bytes)) = some (some (.int .u8 0), 1, 1) := by kernel_rfl
abbrev ty_runtime_boundsError : TypeId := 8
theorem ty_runtime_boundsError.info : (Try.prog.info? 8).map (fun i => (i.zero, i.size, i.bytes)) = some (some (.agg #[.int .i64 0, .int .i64 0, .bool false, .int .u8 0]), 4, 24) := by kernel_rfl
abbrev ty_uintptr : TypeId := 12
theorem ty_uintptr.und : Try.prog.underlying 12 = some (.int .u64) := by kernel_rfl
theorem ty_uintptr.info : (Try.prog.info? 12).map (fun i => (i.zero, i.size, i.bytes)) = some (some (.int .u64 0), 1, 8) := by kernel_rfl
abbrev ty_runtime_errorAddressString : TypeId := 14
theorem ty_runtime_errorAddressString.info : (Try.prog.info? 14).map (fun i => (i.zero, i.size, i.bytes)) = some (some (.agg #[.string (ByteArray.mk #[]), .int .u64 0]), 2, 24) := by kernel_rfl
abbrev ty_p_runtime_TypeAssertionError : TypeId := 15
theorem ty_p_runtime_TypeAssertionError.info : (Try.prog.info? 15).map (fun i => (i.zero, i.size, i.bytes)) = some (some (.pointer none), 1, 8) := by kernel_rfl
abbrev ty_p_runtime_PanicNilError : TypeId := 16
theorem ty_p_runtime_PanicNilError.info : (Try.prog.info? 16).map (fun i => (i.zero, i.size, i.bytes)) = some (some (.pointer none), 1, 8) := by kernel_rfl
abbrev ty_p_abi_Type : TypeId := 17
theorem ty_p_abi_Type.info : (Try.prog.info? 17).map (fun i => (i.zero, i.size, i.bytes)) = some (some (.pointer none), 1, 8) := by kernel_rfl
abbrev ty_maps_unhashableTypeError : TypeId := 19
theorem ty_maps_unhashableTypeError.info : (Try.prog.info? 19).map (fun i => (i.zero, i.size, i.bytes)) = some (some (.agg #[.pointer none]), 1, 8) := by kernel_rfl
abbrev ty_int32 : TypeId := 21
theorem ty_int32.und : Try.prog.underlying 21 = some (.int .i32) := by kernel_rfl
theorem ty_int32.info : (Try.prog.info? 21).map (fun i => (i.zero, i.size, i.bytes)) = some (some (.int .i32 0), 1, 4) := by kernel_rfl
abbrev ty_sl_sl_bool : TypeId := 22
theorem ty_sl_sl_bool.und : Try.prog.underlying 22 = some (.slice 28) := by kernel_rfl
theorem ty_sl_sl_bool.info : (Try.prog.info? 22).map (fun i => (i.zero, i.size, i.bytes)) = some (some (.slice none 0 0), 1, 24) := by kernel_rfl
abbrev ty_sl_int : TypeId := 24
theorem ty_sl_int.und : Try.prog.underlying 24 = some (.slice 3) := by kernel_rfl
theorem ty_sl_int.info : (Try.prog.info? 24).map (fun i => (i.zero, i.size, i.bytes)) = some (some (.slice none 0 0), 1, 24) := by kernel_rfl
abbrev ty_sl_bool : TypeId := 28
theorem ty_sl_bool.und : Try.prog.underlying 28 = some (.slice 4) := by kernel_rfl
theorem ty_sl_bool.info : (Try.prog.info? 28).map (fun i => (i.zero, i.size, i.bytes)) = some (some (.slice none 0 0), 1, 24) := by kernel_rfl
abbrev ty_sl_api_Gate : TypeId := 33
theorem ty_sl_api_Gate.und : Try.prog.underlying 33 = some (.slice 76) := by kernel_rfl
theorem ty_sl_api_Gate.info : (Try.prog.info? 33).map (fun i => (i.zero, i.size, i.bytes)) = some (some (.slice none 0 0), 1, 24) := by kernel_rfl
abbrev ty_sl_sl_int : TypeId := 34
theorem ty_sl_sl_int.und : Try.prog.underlying 34 = some (.slice 24) := by kernel_rfl
theorem ty_sl_sl_int.info : (Try.prog.info? 34).map (fun i => (i.zero, i.size, i.bytes)) = some (some (.slice none 0 0), 1, 24) := by kernel_rfl
abbrev ty_api_Cnf : TypeId := 37
theorem ty_api_Cnf.info : (Try.prog.info? 37).map (fun i => (i.zero, i.size, i.bytes)) = some (some (.agg #[.int .i64 0, .slice none 0 0]), 2, 32) := by kernel_rfl
abbrev ty_api_Coded : TypeId := 39
theorem ty_api_Coded.info : (Try.prog.info? 39).map (fun i => (i.zero, i.size, i.bytes)) = some (some (.agg #[.int .i64 0, .slice none 0 0, .slice none 0 0]), 3, 56) := by kernel_rfl
abbrev ty_api_Errno : TypeId := 40
theorem ty_api_Errno.und : Try.prog.underlying 40 = some (.int .i64) := by kernel_rfl
theorem ty_api_Errno.info : (Try.prog.info? 40).map (fun i => (i.zero, i.size, i.bytes)) = some (some (.int .i64 0), 1, 8) := by kernel_rfl
abbrev ty_p_aig_Aig : TypeId := 47
theorem ty_p_aig_Aig.info : (Try.prog.info? 47).map (fun i => (i.zero, i.size, i.bytes)) = some (some (.pointer none), 1, 8) := by kernel_rfl
abbrev ty_uint16 : TypeId := 56
theorem ty_uint16.und : Try.prog.underlying 56 = some (.int .u16) := by kernel_rfl
theorem ty_uint16.info : (Try.prog.info? 56).map (fun i => (i.zero, i.size, i.bytes)) = some (some (.int .u16 0), 1, 2) := by kernel_rfl
abbrev ty_fathomlaw18_Point : TypeId := 64
theorem ty_fathomlaw18_Point.info : (Try.prog.info? 64).map (fun i => (i.zero, i.size, i.bytes)) = some (some (.agg #[.slice none 0 0, .slice none 0 0, .slice none 0 0]), 3, 72) := by kernel_rfl
abbrev ty_api_Gate : TypeId := 76
theorem ty_api_Gate.info : (Try.prog.info? 76).map (fun i => (i.zero, i.size, i.bytes)) = some (some (.agg #[.int .i64 0, .int .i64 0]), 2, 16) := by kernel_rfl
abbrev ty_p_tseitin_builder : TypeId := 78
theorem ty_p_tseitin_builder.info : (Try.prog.info? 78).map (fun i => (i.zero, i.size, i.bytes)) = some (some (.pointer none), 1, 8) := by kernel_rfl
abbrev ty_tseitin_builder : TypeId := 80
theorem ty_tseitin_builder.info : (Try.prog.info? 80).map (fun i => (i.zero, i.size, i.bytes)) = some (some (.agg #[.int .i64 0, .slice none 0 0, .slice none 0 0]), 3, 56) := by kernel_rfl
abbrev ty_map_api_Gate_int : TypeId := 89
theorem ty_map_api_Gate_int.und : Try.prog.underlying 89 = some (.map 76 3) := by kernel_rfl
theorem ty_map_api_Gate_int.info : (Try.prog.info? 89).map (fun i => (i.zero, i.size, i.bytes)) = some (some (.map none), 1, 8) := by kernel_rfl
abbrev ty_aig_Aig : TypeId := 91
theorem ty_aig_Aig.info : (Try.prog.info? 91).map (fun i => (i.zero, i.size, i.bytes)) = some (some (.agg #[.slice none 0 0, .map none]), 2, 32) := by kernel_rfl
abbrev ty_uint : TypeId := 113
theorem ty_uint.und : Try.prog.underlying 113 = some (.int .u64) := by kernel_rfl
theorem ty_uint.info : (Try.prog.info? 113).map (fun i => (i.zero, i.size, i.bytes)) = some (some (.int .u64 0), 1, 8) := by kernel_rfl
abbrev ty_uint32 : TypeId := 119
theorem ty_uint32.und : Try.prog.underlying 119 = some (.int .u32) := by kernel_rfl
theorem ty_uint32.info : (Try.prog.info? 119).map (fun i => (i.zero, i.size, i.bytes)) = some (some (.int .u32 0), 1, 4) := by kernel_rfl
abbrev ty_uint64 : TypeId := 121
theorem ty_uint64.und : Try.prog.underlying 121 = some (.int .u64) := by kernel_rfl
theorem ty_uint64.info : (Try.prog.info? 121).map (fun i => (i.zero, i.size, i.bytes)) = some (some (.int .u64 0), 1, 8) := by kernel_rfl
abbrev ty_runtime_TypeAssertionError : TypeId := 130
theorem ty_runtime_TypeAssertionError.info : (Try.prog.info? 130).map (fun i => (i.zero, i.size, i.bytes)) = some (some (.agg #[.pointer none, .pointer none, .pointer none, .string (ByteArray.mk #[])]), 4, 40) := by kernel_rfl
abbrev ty_runtime_PanicNilError : TypeId := 133
theorem ty_runtime_PanicNilError.info : (Try.prog.info? 133).map (fun i => (i.zero, i.size, i.bytes)) = some (some (.agg #[]), 0, 0) := by kernel_rfl
abbrev ty_abi_TFlag : TypeId := 134
theorem ty_abi_TFlag.und : Try.prog.underlying 134 = some (.int .u8) := by kernel_rfl
theorem ty_abi_TFlag.info : (Try.prog.info? 134).map (fun i => (i.zero, i.size, i.bytes)) = some (some (.int .u8 0), 1, 1) := by kernel_rfl
abbrev ty_abi_Kind : TypeId := 135
theorem ty_abi_Kind.und : Try.prog.underlying 135 = some (.int .u8) := by kernel_rfl
theorem ty_abi_Kind.info : (Try.prog.info? 135).map (fun i => (i.zero, i.size, i.bytes)) = some (some (.int .u8 0), 1, 1) := by kernel_rfl
abbrev ty_p_uint8 : TypeId := 137
theorem ty_p_uint8.info : (Try.prog.info? 137).map (fun i => (i.zero, i.size, i.bytes)) = some (some (.pointer none), 1, 8) := by kernel_rfl
abbrev ty_abi_NameOff : TypeId := 138
theorem ty_abi_NameOff.und : Try.prog.underlying 138 = some (.int .i32) := by kernel_rfl
theorem ty_abi_NameOff.info : (Try.prog.info? 138).map (fun i => (i.zero, i.size, i.bytes)) = some (some (.int .i32 0), 1, 4) := by kernel_rfl
abbrev ty_abi_TypeOff : TypeId := 139
theorem ty_abi_TypeOff.und : Try.prog.underlying 139 = some (.int .i32) := by kernel_rfl
theorem ty_abi_TypeOff.info : (Try.prog.info? 139).map (fun i => (i.zero, i.size, i.bytes)) = some (some (.int .i32 0), 1, 4) := by kernel_rfl
abbrev ty_abi_Type : TypeId := 141
theorem ty_abi_Type.info : (Try.prog.info? 141).map (fun i => (i.zero, i.size, i.bytes)) = some (some (.agg #[.int .u64 0, .int .u64 0, .int .u32 0, .int .u8 0, .int .u8 0, .int .u8 0, .int .u8 0, .nilFunc, .pointer none, .int .i32 0, .int .i32 0]), 11, 48) := by kernel_rfl

/-! ### fathom/fathomlaw18.TseitinBuilds: function 5 (named slots 9) -/
def fathomlaw18_TseitinBuilds.w (g__p : Option Addr) (g__n : Nat) (g__c : Nat) (clauses__p : Option Addr) (clauses__n : Nat) (clauses__c : Nat) (w : World) (K : Value → World → Prop) : Prop :=
  Calls Try.prog 19 #[.slice g__p g__n g__c, .slice clauses__p clauses__n clauses__c] w fun e w1 => ∃ r2 : Bool, e = .returned (.bool r2) ∧ 
  cnd (!r2)
  (Calls Try.prog 20 #[] w1 fun e w3 => ∃ r4 : Bool, e = .returned (.bool r4) ∧ 
    K (.bool r4) w3)
  (Calls Try.prog 21 #[.slice g__p g__n g__c, .slice clauses__p clauses__n clauses__c] w1 fun e w5 => ∃ r6 : Int, ∃ r7_p : Option Addr, ∃ r7_n : Nat, ∃ r7_c : Nat, ∃ r8_p : Option Addr, ∃ r8_n : Nat, ∃ r8_c : Nat, ∃ r9 : Int, e = .returned (.tuple #[.agg #[.int .i64 r6, .slice r7_p r7_n r7_c, .slice r8_p r8_n r8_c], .int .i64 r9]) ∧ 
    ∀ (n10 : Nat) (w11 : World), New (.cells #[.int .i64 0, .slice none 0 0, .slice none 0 0] 39) w5 n10 w11 → 
    ∃ w12 : World, StoreAt (Addr.mk n10 0 none) 0 [.int .i64 r6, .slice r7_p r7_n r7_c, .slice r8_p r8_n r8_c] w11 w12 ∧ 
    Calls Try.prog 22 #[.slice g__p g__n g__c, .slice clauses__p clauses__n clauses__c] w12 fun e w13 => ∃ r14 : Bool, e = .returned (.bool r14) ∧ 
    cnd (!r14)
    (cnd (r9 == (1 : Int))
      (∃ x15 : Int, ∃ x16_p : Option Addr, ∃ x16_n : Nat, ∃ x16_c : Nat, CellsAt w13 ((Addr.mk n10 0 none).add 0) 0 [.int .i64 x15, .slice x16_p x16_n x16_c] ∧ 
      Calls Try.prog 23 #[.agg #[.int .i64 x15, .slice x16_p x16_n x16_c], .agg #[.int .i64 0, .slice none 0 0]] w13 fun e w17 => ∃ r18 : Bool, e = .returned (.bool r18) ∧ 
      cnd r18
      (∃ x19_p : Option Addr, ∃ x19_n : Nat, ∃ x19_c : Nat, w17.cell? ((Addr.mk n10 0 none).add 2) = some (.slice x19_p x19_n x19_c) ∧ 
      cnd ((x19_n : Int) == (0 : Int))
      (Calls Try.prog 20 #[] w17 fun e w20 => ∃ r21 : Bool, e = .returned (.bool r21) ∧ 
      K (.bool r21) w20)
      (K (.bool false) w17))
      (K (.bool false) w17))
      (K (.bool false) w13))
    (Calls Try.prog 24 #[.slice g__p g__n g__c, .slice clauses__p clauses__n clauses__c] w13 fun e w22 => ∃ r23 : Int, ∃ r24_p : Option Addr, ∃ r24_n : Nat, ∃ r24_c : Nat, ∃ r25_p : Option Addr, ∃ r25_n : Nat, ∃ r25_c : Nat, e = .returned (.agg #[.int .i64 r23, .slice r24_p r24_n r24_c, .slice r25_p r25_n r25_c]) ∧ 
      ∀ (n26 : Nat) (w27 : World), New (.cells #[.int .i64 0, .slice none 0 0, .slice none 0 0] 39) w22 n26 w27 → 
      ∃ w28 : World, StoreAt (Addr.mk n26 0 none) 0 [.int .i64 r23, .slice r24_p r24_n r24_c, .slice r25_p r25_n r25_c] w27 w28 ∧ 
      cnd (r9 != (0 : Int))
      (K (.bool false) w28)
      (∃ x29 : Int, ∃ x30_p : Option Addr, ∃ x30_n : Nat, ∃ x30_c : Nat, CellsAt w28 ((Addr.mk n10 0 none).add 0) 0 [.int .i64 x29, .slice x30_p x30_n x30_c] ∧ 
      ∃ x31 : Int, ∃ x32_p : Option Addr, ∃ x32_n : Nat, ∃ x32_c : Nat, CellsAt w28 ((Addr.mk n26 0 none).add 0) 0 [.int .i64 x31, .slice x32_p x32_n x32_c] ∧ 
      Calls Try.prog 23 #[.agg #[.int .i64 x29, .slice x30_p x30_n x30_c], .agg #[.int .i64 x31, .slice x32_p x32_n x32_c]] w28 fun e w33 => ∃ r34 : Bool, e = .returned (.bool r34) ∧ 
      cnd (!r34)
      (K (.bool false) w33)
      (∃ x35_p : Option Addr, ∃ x35_n : Nat, ∃ x35_c : Nat, w33.cell? ((Addr.mk n10 0 none).add 2) = some (.slice x35_p x35_n x35_c) ∧ 
      ∃ x36_p : Option Addr, ∃ x36_n : Nat, ∃ x36_c : Nat, w33.cell? ((Addr.mk n26 0 none).add 2) = some (.slice x36_p x36_n x36_c) ∧ 
      Calls Try.prog 25 #[.slice x35_p x35_n x35_c, .slice x36_p x36_n x36_c] w33 fun e w37 => ∃ r38 : Bool, e = .returned (.bool r38) ∧ 
      cnd (!r38)
      (K (.bool false) w37)
      (∃ I39 : Int → World → Nat → Prop, (∃ k40, I39 0 w37 k40) ∧
        ∀ (i_42 : Int) (w43 : World) (k40 : Nat) (_ : Fr), I39 i_42 w43 k40 →
        cnd (decide (i_42 < (g__n : Int)))
          (∃ x44 : Int, ∃ x45_p : Option Addr, ∃ x45_n : Nat, ∃ x45_c : Nat, ∃ x46_p : Option Addr, ∃ x46_n : Nat, ∃ x46_c : Nat, CellsAt w43.drew (Addr.mk n10 0 none) 0 [.int .i64 x44, .slice x45_p x45_n x45_c, .slice x46_p x46_n x46_c] ∧ 
            (Calls Try.prog 26 #[.agg #[.int .i64 x44, .slice x45_p x45_n x45_c, .slice x46_p x46_n x46_c], .int .i64 (IntKind.i64.wrap ((IntKind.i64.wrap ((2 : Int) * i_42)) + (2 : Int)))] w43.drew fun e w47 => ∃ r48 : Int, e = .returned (.int .i64 r48) ∧ 
            ∃ x49_p : Option Addr, ∃ x49_n : Nat, ∃ x49_c : Nat, w47.cell? ((Addr.mk n26 0 none).add 2) = some (.slice x49_p x49_n x49_c) ∧ 
            ixK x49_p x49_n i_42 1 fun a50 =>
            ∃ x51 : Int, w47.cell? a50 = some (.int .i64 x51) ∧ 
            cnd (r48 != x51)
            ((K (.bool false) w47) ∧
          ((K (.bool false) w47) ∧
          (K (.bool false) w47)))
            (∃ x52 : Int, ∃ x53_p : Option Addr, ∃ x53_n : Nat, ∃ x53_c : Nat, ∃ x54_p : Option Addr, ∃ x54_n : Nat, ∃ x54_c : Nat, CellsAt w47 (Addr.mk n10 0 none) 0 [.int .i64 x52, .slice x53_p x53_n x53_c, .slice x54_p x54_n x54_c] ∧ 
            (Calls Try.prog 26 #[.agg #[.int .i64 x52, .slice x53_p x53_n x53_c, .slice x54_p x54_n x54_c], .int .i64 (IntKind.i64.wrap ((IntKind.i64.wrap ((2 : Int) * i_42)) + (3 : Int)))] w47 fun e w55 => ∃ r56 : Int, e = .returned (.int .i64 r56) ∧ 
            ∃ x57_p : Option Addr, ∃ x57_n : Nat, ∃ x57_c : Nat, w55.cell? ((Addr.mk n26 0 none).add 2) = some (.slice x57_p x57_n x57_c) ∧ 
            ixK x57_p x57_n i_42 1 fun a58 =>
            ∃ x59 : Int, w55.cell? a58 = some (.int .i64 x59) ∧ 
            cnd (r56 != (IntKind.i64.wrap (0 - x59)))
            (K (.bool false) w55)
            (∃ k41, k41 < k40 ∧ I39 (IntKind.i64.wrap (i_42 + (1 : Int))) w55 k41)) ∧
          (∃ x60_p : Option Addr, ∃ x60_n : Nat, ∃ x60_c : Nat, w47.cell? ((Addr.mk n26 0 none).add 2) = some (.slice x60_p x60_n x60_c) ∧ 
            ixK x60_p x60_n i_42 1 fun a61 =>
            (Calls Try.prog 26 #[.agg #[.int .i64 x52, .slice x53_p x53_n x53_c, .slice x54_p x54_n x54_c], .int .i64 (IntKind.i64.wrap ((IntKind.i64.wrap ((2 : Int) * i_42)) + (3 : Int)))] w47 fun e w62 => ∃ r63 : Int, e = .returned (.int .i64 r63) ∧ 
            ∃ x64 : Int, w62.cell? a61 = some (.int .i64 x64) ∧ 
            cnd (r63 != (IntKind.i64.wrap (0 - x64)))
            (K (.bool false) w62)
            (∃ k41, k41 < k40 ∧ I39 (IntKind.i64.wrap (i_42 + (1 : Int))) w62 k41)) ∧
          (∃ x65 : Int, w47.cell? a61 = some (.int .i64 x65) ∧ 
            Calls Try.prog 26 #[.agg #[.int .i64 x52, .slice x53_p x53_n x53_c, .slice x54_p x54_n x54_c], .int .i64 (IntKind.i64.wrap ((IntKind.i64.wrap ((2 : Int) * i_42)) + (3 : Int)))] w47 fun e w66 => ∃ r67 : Int, e = .returned (.int .i64 r67) ∧ 
            cnd (r67 != (IntKind.i64.wrap (0 - x65)))
            (K (.bool false) w66)
            (∃ k41, k41 < k40 ∧ I39 (IntKind.i64.wrap (i_42 + (1 : Int))) w66 k41))))) ∧
          (∃ x68_p : Option Addr, ∃ x68_n : Nat, ∃ x68_c : Nat, w43.drew.cell? ((Addr.mk n26 0 none).add 2) = some (.slice x68_p x68_n x68_c) ∧ 
            ixK x68_p x68_n i_42 1 fun a69 =>
            (Calls Try.prog 26 #[.agg #[.int .i64 x44, .slice x45_p x45_n x45_c, .slice x46_p x46_n x46_c], .int .i64 (IntKind.i64.wrap ((IntKind.i64.wrap ((2 : Int) * i_42)) + (2 : Int)))] w43.drew fun e w70 => ∃ r71 : Int, e = .returned (.int .i64 r71) ∧ 
            ∃ x72 : Int, w70.cell? a69 = some (.int .i64 x72) ∧ 
            cnd (r71 != x72)
            ((K (.bool false) w70) ∧
          ((K (.bool false) w70) ∧
          (K (.bool false) w70)))
            (∃ x73 : Int, ∃ x74_p : Option Addr, ∃ x74_n : Nat, ∃ x74_c : Nat, ∃ x75_p : Option Addr, ∃ x75_n : Nat, ∃ x75_c : Nat, CellsAt w70 (Addr.mk n10 0 none) 0 [.int .i64 x73, .slice x74_p x74_n x74_c, .slice x75_p x75_n x75_c] ∧ 
            (Calls Try.prog 26 #[.agg #[.int .i64 x73, .slice x74_p x74_n x74_c, .slice x75_p x75_n x75_c], .int .i64 (IntKind.i64.wrap ((IntKind.i64.wrap ((2 : Int) * i_42)) + (3 : Int)))] w70 fun e w76 => ∃ r77 : Int, e = .returned (.int .i64 r77) ∧ 
            ∃ x78_p : Option Addr, ∃ x78_n : Nat, ∃ x78_c : Nat, w76.cell? ((Addr.mk n26 0 none).add 2) = some (.slice x78_p x78_n x78_c) ∧ 
            ixK x78_p x78_n i_42 1 fun a79 =>
            ∃ x80 : Int, w76.cell? a79 = some (.int .i64 x80) ∧ 
            cnd (r77 != (IntKind.i64.wrap (0 - x80)))
            (K (.bool false) w76)
            (∃ k41, k41 < k40 ∧ I39 (IntKind.i64.wrap (i_42 + (1 : Int))) w76 k41)) ∧
          (∃ x81_p : Option Addr, ∃ x81_n : Nat, ∃ x81_c : Nat, w70.cell? ((Addr.mk n26 0 none).add 2) = some (.slice x81_p x81_n x81_c) ∧ 
            ixK x81_p x81_n i_42 1 fun a82 =>
            (Calls Try.prog 26 #[.agg #[.int .i64 x73, .slice x74_p x74_n x74_c, .slice x75_p x75_n x75_c], .int .i64 (IntKind.i64.wrap ((IntKind.i64.wrap ((2 : Int) * i_42)) + (3 : Int)))] w70 fun e w83 => ∃ r84 : Int, e = .returned (.int .i64 r84) ∧ 
            ∃ x85 : Int, w83.cell? a82 = some (.int .i64 x85) ∧ 
            cnd (r84 != (IntKind.i64.wrap (0 - x85)))
            (K (.bool false) w83)
            (∃ k41, k41 < k40 ∧ I39 (IntKind.i64.wrap (i_42 + (1 : Int))) w83 k41)) ∧
          (∃ x86 : Int, w70.cell? a82 = some (.int .i64 x86) ∧ 
            Calls Try.prog 26 #[.agg #[.int .i64 x73, .slice x74_p x74_n x74_c, .slice x75_p x75_n x75_c], .int .i64 (IntKind.i64.wrap ((IntKind.i64.wrap ((2 : Int) * i_42)) + (3 : Int)))] w70 fun e w87 => ∃ r88 : Int, e = .returned (.int .i64 r88) ∧ 
            cnd (r88 != (IntKind.i64.wrap (0 - x86)))
            (K (.bool false) w87)
            (∃ k41, k41 < k40 ∧ I39 (IntKind.i64.wrap (i_42 + (1 : Int))) w87 k41))))) ∧
          (∃ x89 : Int, w43.drew.cell? a69 = some (.int .i64 x89) ∧ 
            Calls Try.prog 26 #[.agg #[.int .i64 x44, .slice x45_p x45_n x45_c, .slice x46_p x46_n x46_c], .int .i64 (IntKind.i64.wrap ((IntKind.i64.wrap ((2 : Int) * i_42)) + (2 : Int)))] w43.drew fun e w90 => ∃ r91 : Int, e = .returned (.int .i64 r91) ∧ 
            cnd (r91 != x89)
            ((K (.bool false) w90) ∧
          ((K (.bool false) w90) ∧
          (K (.bool false) w90)))
            (∃ x92 : Int, ∃ x93_p : Option Addr, ∃ x93_n : Nat, ∃ x93_c : Nat, ∃ x94_p : Option Addr, ∃ x94_n : Nat, ∃ x94_c : Nat, CellsAt w90 (Addr.mk n10 0 none) 0 [.int .i64 x92, .slice x93_p x93_n x93_c, .slice x94_p x94_n x94_c] ∧ 
            (Calls Try.prog 26 #[.agg #[.int .i64 x92, .slice x93_p x93_n x93_c, .slice x94_p x94_n x94_c], .int .i64 (IntKind.i64.wrap ((IntKind.i64.wrap ((2 : Int) * i_42)) + (3 : Int)))] w90 fun e w95 => ∃ r96 : Int, e = .returned (.int .i64 r96) ∧ 
            ∃ x97_p : Option Addr, ∃ x97_n : Nat, ∃ x97_c : Nat, w95.cell? ((Addr.mk n26 0 none).add 2) = some (.slice x97_p x97_n x97_c) ∧ 
            ixK x97_p x97_n i_42 1 fun a98 =>
            ∃ x99 : Int, w95.cell? a98 = some (.int .i64 x99) ∧ 
            cnd (r96 != (IntKind.i64.wrap (0 - x99)))
            (K (.bool false) w95)
            (∃ k41, k41 < k40 ∧ I39 (IntKind.i64.wrap (i_42 + (1 : Int))) w95 k41)) ∧
          (∃ x100_p : Option Addr, ∃ x100_n : Nat, ∃ x100_c : Nat, w90.cell? ((Addr.mk n26 0 none).add 2) = some (.slice x100_p x100_n x100_c) ∧ 
            ixK x100_p x100_n i_42 1 fun a101 =>
            (Calls Try.prog 26 #[.agg #[.int .i64 x92, .slice x93_p x93_n x93_c, .slice x94_p x94_n x94_c], .int .i64 (IntKind.i64.wrap ((IntKind.i64.wrap ((2 : Int) * i_42)) + (3 : Int)))] w90 fun e w102 => ∃ r103 : Int, e = .returned (.int .i64 r103) ∧ 
            ∃ x104 : Int, w102.cell? a101 = some (.int .i64 x104) ∧ 
            cnd (r103 != (IntKind.i64.wrap (0 - x104)))
            (K (.bool false) w102)
            (∃ k41, k41 < k40 ∧ I39 (IntKind.i64.wrap (i_42 + (1 : Int))) w102 k41)) ∧
          (∃ x105 : Int, w90.cell? a101 = some (.int .i64 x105) ∧ 
            Calls Try.prog 26 #[.agg #[.int .i64 x92, .slice x93_p x93_n x93_c, .slice x94_p x94_n x94_c], .int .i64 (IntKind.i64.wrap ((IntKind.i64.wrap ((2 : Int) * i_42)) + (3 : Int)))] w90 fun e w106 => ∃ r107 : Int, e = .returned (.int .i64 r107) ∧ 
            cnd (r107 != (IntKind.i64.wrap (0 - x105)))
            (K (.bool false) w106)
            (∃ k41, k41 < k40 ∧ I39 (IntKind.i64.wrap (i_42 + (1 : Int))) w106 k41)))))))
          (∃ x108 : Int, ∃ x109_p : Option Addr, ∃ x109_n : Nat, ∃ x109_c : Nat, ∃ x110_p : Option Addr, ∃ x110_n : Nat, ∃ x110_c : Nat, CellsAt w43 (Addr.mk n10 0 none) 0 [.int .i64 x108, .slice x109_p x109_n x109_c, .slice x110_p x110_n x110_c] ∧ 
            Calls Try.prog 26 #[.agg #[.int .i64 x108, .slice x109_p x109_n x109_c, .slice x110_p x110_n x110_c], .int .i64 0] w43 fun e w111 => ∃ r112 : Int, e = .returned (.int .i64 r112) ∧ 
            cnd (r112 == (0 : Int))
            (∃ x113 : Int, ∃ x114_p : Option Addr, ∃ x114_n : Nat, ∃ x114_c : Nat, ∃ x115_p : Option Addr, ∃ x115_n : Nat, ∃ x115_c : Nat, CellsAt w111 (Addr.mk n10 0 none) 0 [.int .i64 x113, .slice x114_p x114_n x114_c, .slice x115_p x115_n x115_c] ∧ 
            Calls Try.prog 26 #[.agg #[.int .i64 x113, .slice x114_p x114_n x114_c, .slice x115_p x115_n x115_c], .int .i64 1] w111 fun e w116 => ∃ r117 : Int, e = .returned (.int .i64 r117) ∧ 
            cnd (r117 == (0 : Int))
            (∃ x118 : Int, ∃ x119_p : Option Addr, ∃ x119_n : Nat, ∃ x119_c : Nat, ∃ x120_p : Option Addr, ∃ x120_n : Nat, ∃ x120_c : Nat, CellsAt w116 (Addr.mk n10 0 none) 0 [.int .i64 x118, .slice x119_p x119_n x119_c, .slice x120_p x120_n x120_c] ∧ 
            Calls Try.prog 26 #[.agg #[.int .i64 x118, .slice x119_p x119_n x119_c, .slice x120_p x120_n x120_c], .int .i64 (IntKind.i64.wrap ((IntKind.i64.wrap ((2 : Int) * (g__n : Int))) + (2 : Int)))] w116 fun e w121 => ∃ r122 : Int, e = .returned (.int .i64 r122) ∧ 
            cnd (r122 == (0 : Int))
            (∃ x123 : Int, ∃ x124_p : Option Addr, ∃ x124_n : Nat, ∃ x124_c : Nat, ∃ x125_p : Option Addr, ∃ x125_n : Nat, ∃ x125_c : Nat, CellsAt w121 (Addr.mk n10 0 none) 0 [.int .i64 x123, .slice x124_p x124_n x124_c, .slice x125_p x125_n x125_c] ∧ 
            Calls Try.prog 26 #[.agg #[.int .i64 x123, .slice x124_p x124_n x124_c, .slice x125_p x125_n x125_c], .int .i64 (-5)] w121 fun e w126 => ∃ r127 : Int, e = .returned (.int .i64 r127) ∧ 
            cnd (r127 == (0 : Int))
            (Calls Try.prog 20 #[] w126 fun e w128 => ∃ r129 : Bool, e = .returned (.bool r129) ∧ 
            K (.bool r129) w128)
            (K (.bool false) w126))
            (K (.bool false) w121))
            (K (.bool false) w116))
            (K (.bool false) w111)))))))
theorem fathomlaw18_TseitinBuilds.eq (g__p : Option Addr) (g__n : Nat) (g__c : Nat) (clauses__p : Option Addr) (clauses__n : Nat) (clauses__c : Nat) (w : World) (K : Value → World → Prop) : wpF Try.prog Try.f5 (.two .leaf (.two .leaf (.two .leaf (.two .leaf (.two .leaf (.two .leaf (.two (.two .leaf (.one (.loop [(8, 3)] .leaf))) .leaf))))))) [.slice g__p g__n g__c, .slice clauses__p clauses__n clauses__c] w K = fathomlaw18_TseitinBuilds.w g__p g__n g__c clauses__p clauses__n clauses__c w K := by kernel_rfl
theorem fathomlaw18_TseitinBuilds.ok : fnOk Try.prog Try.f5 2 = true := by kernel_rfl
theorem fathomlaw18_TseitinBuilds.calls {g__p : Option Addr} {g__n : Nat} {g__c : Nat} {clauses__p : Option Addr} {clauses__n : Nat} {clauses__c : Nat} {w : World} {R : Ending → World → Prop} (h : fathomlaw18_TseitinBuilds.w g__p g__n g__c clauses__p clauses__n clauses__c w fun v w' => R (.returned v) w') : Calls Try.prog 5 #[.slice g__p g__n g__c, .slice clauses__p clauses__n clauses__c] w R :=
  calls_of mixed Try.func5 fathomlaw18_TseitinBuilds.ok rfl (fun K => fathomlaw18_TseitinBuilds.eq g__p g__n g__c clauses__p clauses__n clauses__c w K) h

/-! ### fathom/fathomlaw18.TseitinMeans: function 7 (named slots 13) -/
def fathomlaw18_TseitinMeans.w (g__p : Option Addr) (g__n : Nat) (g__c : Nat) (clauses__p : Option Addr) (clauses__n : Nat) (clauses__c : Nat) (m_ : Int) (w : World) (K : Value → World → Prop) : Prop :=
  Calls Try.prog 19 #[.slice g__p g__n g__c, .slice clauses__p clauses__n clauses__c] w fun e w1 => ∃ r2 : Bool, e = .returned (.bool r2) ∧ 
  cnd (!r2)
  (Calls Try.prog 20 #[] w1 fun e w3 => ∃ r4 : Bool, e = .returned (.bool r4) ∧ 
  K (.bool r4) w3)
  (Calls Try.prog 22 #[.slice g__p g__n g__c, .slice clauses__p clauses__n clauses__c] w1 fun e w5 => ∃ r6 : Bool, e = .returned (.bool r6) ∧ 
  cnd (!r6)
  (Calls Try.prog 20 #[] w5 fun e w7 => ∃ r8 : Bool, e = .returned (.bool r8) ∧ 
    K (.bool r8) w7)
  (Calls Try.prog 21 #[.slice g__p g__n g__c, .slice clauses__p clauses__n clauses__c] w5 fun e w9 => ∃ r10 : Int, ∃ r11_p : Option Addr, ∃ r11_n : Nat, ∃ r11_c : Nat, ∃ r12_p : Option Addr, ∃ r12_n : Nat, ∃ r12_c : Nat, ∃ r13 : Int, e = .returned (.tuple #[.agg #[.int .i64 r10, .slice r11_p r11_n r11_c, .slice r12_p r12_n r12_c], .int .i64 r13]) ∧ 
    ∀ (n14 : Nat) (w15 : World), New (.cells #[.int .i64 0, .slice none 0 0, .slice none 0 0] 39) w9 n14 w15 → 
    ∃ w16 : World, StoreAt (Addr.mk n14 0 none) 0 [.int .i64 r10, .slice r11_p r11_n r11_c, .slice r12_p r12_n r12_c] w15 w16 ∧ 
    cnd (r13 != (0 : Int))
    (K (.bool false) w16)
    (∃ x17_p : Option Addr, ∃ x17_n : Nat, ∃ x17_c : Nat, w16.cell? ((Addr.mk n14 0 none).add 2) = some (.slice x17_p x17_n x17_c) ∧ 
    cnd ((x17_n : Int) != (g__n : Int))
    (K (.bool false) w16)
    (∃ x18 : Int, w16.cell? (((Addr.mk n14 0 none).add 0).add 0) = some (.int .i64 x18) ∧ 
    cnd (decide (x18 > (g__n : Int)))
    (K (.bool false) w16)
    (∃ x19 : Int, w16.cell? (((Addr.mk n14 0 none).add 0).add 0) = some (.int .i64 x19) ∧ 
      Calls Try.prog 33 #[.int .i64 x19, .int .i64 (IntKind.i64.wrap m_)] w16 fun e w20 => ∃ r21_p : Option Addr, ∃ r21_n : Nat, ∃ r21_c : Nat, e = .returned (.slice r21_p r21_n r21_c) ∧ 
      ∃ x22 : Int, ∃ x23_p : Option Addr, ∃ x23_n : Nat, ∃ x23_c : Nat, ∃ x24_p : Option Addr, ∃ x24_n : Nat, ∃ x24_c : Nat, CellsAt w20 (Addr.mk n14 0 none) 0 [.int .i64 x22, .slice x23_p x23_n x23_c, .slice x24_p x24_n x24_c] ∧ 
      Calls Try.prog 34 #[.slice g__p g__n g__c, .agg #[.int .i64 x22, .slice x23_p x23_n x23_c, .slice x24_p x24_n x24_c], .slice r21_p r21_n r21_c] w20 fun e w25 => ∃ r26_p : Option Addr, ∃ r26_n : Nat, ∃ r26_c : Nat, e = .returned (.slice r26_p r26_n r26_c) ∧ 
      Calls Try.prog 31 #[.slice g__p g__n g__c, .slice clauses__p clauses__n clauses__c, .slice r26_p r26_n r26_c] w25 fun e w27 => ∃ r28 : Bool, e = .returned (.bool r28) ∧ 
      ∃ I29 : Bool → Int → World → Nat → Prop, (∃ k30, I29 r28 0 w27 k30) ∧
      ∀ (fits_32 : Bool) (i_33 : Int) (w34 : World) (k30 : Nat) (_ : Fr), I29 fits_32 i_33 w34 k30 →
      cnd (decide (i_33 < (g__n : Int)))
        (∃ x35_p : Option Addr, ∃ x35_n : Nat, ∃ x35_c : Nat, w34.cell? ((Addr.mk n14 0 none).add 2) = some (.slice x35_p x35_n x35_c) ∧ 
          ixK x35_p x35_n i_33 1 fun a36 =>
          ∃ x37 : Int, w34.cell? a36 = some (.int .i64 x37) ∧ 
          cnd (decide (x37 > (0 : Int)))
          (∃ x38_p : Option Addr, ∃ x38_n : Nat, ∃ x38_c : Nat, w34.cell? ((Addr.mk n14 0 none).add 2) = some (.slice x38_p x38_n x38_c) ∧ 
          ixK x38_p x38_n i_33 1 fun a39 =>
          ∃ x40 : Int, w34.cell? a39 = some (.int .i64 x40) ∧ 
          Calls Try.prog 35 #[.slice r21_p r21_n r21_c, .int .i64 x40] w34 fun e w41 => ∃ r42 : Int, e = .returned (.int .i64 r42) ∧ 
          Calls Try.prog 36 #[.slice g__p g__n g__c, .slice r26_p r26_n r26_c, .int .i64 (IntKind.i64.wrap ((IntKind.i64.wrap ((2 : Int) * i_33)) + (2 : Int)))] w41 fun e w43 => ∃ r44 : Bool, e = .returned (.bool r44) ∧ 
          cnd (!((r42 == (1 : Int)) == r44))
          (∃ k31, k31 < k30 ∧ I29 false (IntKind.i64.wrap (i_33 + (1 : Int))) w43 k31)
          (∃ k31, k31 < k30 ∧ I29 fits_32 (IntKind.i64.wrap (i_33 + (1 : Int))) w43 k31))
          (∃ k31, k31 < k30 ∧ I29 fits_32 (IntKind.i64.wrap (i_33 + (1 : Int))) w34 k31))
        (∃ x45 : Int, ∃ x46_p : Option Addr, ∃ x46_n : Nat, ∃ x46_c : Nat, CellsAt w34 ((Addr.mk n14 0 none).add 0) 0 [.int .i64 x45, .slice x46_p x46_n x46_c] ∧ 
          Calls Try.prog 37 #[.agg #[.int .i64 x45, .slice x46_p x46_n x46_c], .slice r21_p r21_n r21_c] w34 fun e w47 => ∃ r48 : Bool, e = .returned (.bool r48) ∧ 
          cnd (r48 == fits_32)
          (Calls Try.prog 20 #[] w47 fun e w49 => ∃ r50 : Bool, e = .returned (.bool r50) ∧ 
          K (.bool r50) w49)
          (K (.bool false) w47)))))))
theorem fathomlaw18_TseitinMeans.eq (g__p : Option Addr) (g__n : Nat) (g__c : Nat) (clauses__p : Option Addr) (clauses__n : Nat) (clauses__c : Nat) (m_ : Int) (w : World) (K : Value → World → Prop) : wpF Try.prog Try.f7 (.two .leaf (.two .leaf (.two .leaf (.two .leaf (.two .leaf (.two .leaf (.two .leaf (.two (.two .leaf (.one (.loop [(11, 4), (12, 3)] .leaf))) .leaf)))))))) [.slice g__p g__n g__c, .slice clauses__p clauses__n clauses__c, .int .u16 m_] w K = fathomlaw18_TseitinMeans.w g__p g__n g__c clauses__p clauses__n clauses__c m_ w K := by kernel_rfl
theorem fathomlaw18_TseitinMeans.ok : fnOk Try.prog Try.f7 3 = true := by kernel_rfl
theorem fathomlaw18_TseitinMeans.calls {g__p : Option Addr} {g__n : Nat} {g__c : Nat} {clauses__p : Option Addr} {clauses__n : Nat} {clauses__c : Nat} {m_ : Int} {w : World} {R : Ending → World → Prop} (h : fathomlaw18_TseitinMeans.w g__p g__n g__c clauses__p clauses__n clauses__c m_ w fun v w' => R (.returned v) w') : Calls Try.prog 7 #[.slice g__p g__n g__c, .slice clauses__p clauses__n clauses__c, .int .u16 m_] w R :=
  calls_of mixed Try.func7 fathomlaw18_TseitinMeans.ok rfl (fun K => fathomlaw18_TseitinMeans.eq g__p g__n g__c clauses__p clauses__n clauses__c m_ w K) h

/-! ### fathom/fathomlaw18.TseitinReads: function 8 (named slots 10) -/
def fathomlaw18_TseitinReads.w (g__p : Option Addr) (g__n : Nat) (g__c : Nat) (clauses__p : Option Addr) (clauses__n : Nat) (clauses__c : Nat) (x2_0_p : Option Addr) (x2_0_n : Nat) (x2_0_c : Nat) (x2_1_p : Option Addr) (x2_1_n : Nat) (x2_1_c : Nat) (x2_2_p : Option Addr) (x2_2_n : Nat) (x2_2_c : Nat) (w : World) (K : Value → World → Prop) : Prop :=
  ∀ (n1 : Nat) (w2 : World), New (.cells #[.slice x2_0_p x2_0_n x2_0_c, .slice x2_1_p x2_1_n x2_1_c, .slice x2_2_p x2_2_n x2_2_c] 64) w n1 w2 → 
  Calls Try.prog 19 #[.slice g__p g__n g__c, .slice clauses__p clauses__n clauses__c] w2 fun e w3 => ∃ r4 : Bool, e = .returned (.bool r4) ∧ 
  cnd (!r4)
  (Calls Try.prog 20 #[] w3 fun e w5 => ∃ r6 : Bool, e = .returned (.bool r6) ∧ 
    K (.bool r6) w5)
  (Calls Try.prog 38 #[.slice g__p g__n g__c] w3 fun e w7 => ∃ r8 : Bool, e = .returned (.bool r8) ∧ 
    cnd (!r8)
    (∃ x9_p : Option Addr, ∃ x9_n : Nat, ∃ x9_c : Nat, w7.cell? ((Addr.mk n1 0 none).add 0) = some (.slice x9_p x9_n x9_c) ∧ 
      ∃ x10_p : Option Addr, ∃ x10_n : Nat, ∃ x10_c : Nat, w7.cell? ((Addr.mk n1 0 none).add 1) = some (.slice x10_p x10_n x10_c) ∧ 
      Calls Try.prog 34 #[.slice g__p g__n g__c, .agg #[.int .i64 0, .slice none 0 0, .slice x9_p x9_n x9_c], .slice x10_p x10_n x10_c] w7 fun e w11 => ∃ r12_p : Option Addr, ∃ r12_n : Nat, ∃ r12_c : Nat, e = .returned (.slice r12_p r12_n r12_c) ∧ 
      cnd ((r12_n : Int) == (0 : Int))
      (∃ x13_p : Option Addr, ∃ x13_n : Nat, ∃ x13_c : Nat, w11.cell? ((Addr.mk n1 0 none).add 2) = some (.slice x13_p x13_n x13_c) ∧ 
      Calls Try.prog 39 #[.slice g__p g__n g__c, .slice clauses__p clauses__n clauses__c, .slice x13_p x13_n x13_c] w11 fun e w14 => ∃ r15 : Bool, e = .returned (.bool r15) ∧ 
      cnd (!r15)
      (Calls Try.prog 20 #[] w14 fun e w16 => ∃ r17 : Bool, e = .returned (.bool r17) ∧ 
      K (.bool r17) w16)
      (K (.bool false) w14))
      (K (.bool false) w11))
    (∃ x18_p : Option Addr, ∃ x18_n : Nat, ∃ x18_c : Nat, w7.cell? ((Addr.mk n1 0 none).add 0) = some (.slice x18_p x18_n x18_c) ∧ 
      ∃ x19_p : Option Addr, ∃ x19_n : Nat, ∃ x19_c : Nat, w7.cell? ((Addr.mk n1 0 none).add 1) = some (.slice x19_p x19_n x19_c) ∧ 
      Calls Try.prog 34 #[.slice g__p g__n g__c, .agg #[.int .i64 0, .slice none 0 0, .slice x18_p x18_n x18_c], .slice x19_p x19_n x19_c] w7 fun e w20 => ∃ r21_p : Option Addr, ∃ r21_n : Nat, ∃ r21_c : Nat, e = .returned (.slice r21_p r21_n r21_c) ∧ 
      ∃ x22_p : Option Addr, ∃ x22_n : Nat, ∃ x22_c : Nat, w20.cell? ((Addr.mk n1 0 none).add 0) = some (.slice x22_p x22_n x22_c) ∧ 
      cnd ((x22_n : Int) != (g__n : Int))
      (cnd ((r21_n : Int) != (0 : Int))
        (K (.bool false) w20)
        (Calls Try.prog 22 #[.slice g__p g__n g__c, .slice clauses__p clauses__n clauses__c] w20 fun e w23 => ∃ r24 : Bool, e = .returned (.bool r24) ∧ 
          cnd (!r24)
          (Calls Try.prog 20 #[] w23 fun e w25 => ∃ r26 : Bool, e = .returned (.bool r26) ∧ 
            K (.bool r26) w25)
          (∃ x27_p : Option Addr, ∃ x27_n : Nat, ∃ x27_c : Nat, w23.drew.cell? ((Addr.mk n1 0 none).add 2) = some (.slice x27_p x27_n x27_c) ∧ 
            (Calls Try.prog 39 #[.slice g__p g__n g__c, .slice clauses__p clauses__n clauses__c, .slice x27_p x27_n x27_c] w23.drew fun e w28 => ∃ r29 : Bool, e = .returned (.bool r29) ∧ 
            ∃ x30_p : Option Addr, ∃ x30_n : Nat, ∃ x30_c : Nat, w28.cell? ((Addr.mk n1 0 none).add 2) = some (.slice x30_p x30_n x30_c) ∧ 
            Calls Try.prog 31 #[.slice g__p g__n g__c, .slice clauses__p clauses__n clauses__c, .slice x30_p x30_n x30_c] w28 fun e w31 => ∃ r32 : Bool, e = .returned (.bool r32) ∧ 
            cnd (r29 == r32)
            (Calls Try.prog 20 #[] w31 fun e w33 => ∃ r34 : Bool, e = .returned (.bool r34) ∧ 
            K (.bool r34) w33)
            (K (.bool false) w31)) ∧
          (∃ x35_p : Option Addr, ∃ x35_n : Nat, ∃ x35_c : Nat, w23.drew.cell? ((Addr.mk n1 0 none).add 2) = some (.slice x35_p x35_n x35_c) ∧ 
            Calls Try.prog 39 #[.slice g__p g__n g__c, .slice clauses__p clauses__n clauses__c, .slice x27_p x27_n x27_c] w23.drew fun e w36 => ∃ r37 : Bool, e = .returned (.bool r37) ∧ 
            Calls Try.prog 31 #[.slice g__p g__n g__c, .slice clauses__p clauses__n clauses__c, .slice x35_p x35_n x35_c] w36 fun e w38 => ∃ r39 : Bool, e = .returned (.bool r39) ∧ 
            cnd (r37 == r39)
            (Calls Try.prog 20 #[] w38 fun e w40 => ∃ r41 : Bool, e = .returned (.bool r41) ∧ 
            K (.bool r41) w40)
            (K (.bool false) w38)))))
      (∃ x42_p : Option Addr, ∃ x42_n : Nat, ∃ x42_c : Nat, w20.cell? ((Addr.mk n1 0 none).add 0) = some (.slice x42_p x42_n x42_c) ∧ 
        ∃ x43_p : Option Addr, ∃ x43_n : Nat, ∃ x43_c : Nat, w20.cell? ((Addr.mk n1 0 none).add 1) = some (.slice x43_p x43_n x43_c) ∧ 
        Calls Try.prog 40 #[.slice g__p g__n g__c, .slice x42_p x42_n x42_c, .slice x43_p x43_n x43_c] w20 fun e w44 => ∃ r45_p : Option Addr, ∃ r45_n : Nat, ∃ r45_c : Nat, e = .returned (.slice r45_p r45_n r45_c) ∧ 
        cnd ((r21_n : Int) != (r45_n : Int))
        (K (.bool false) w44)
        (∃ I46 : Int → World → Nat → Prop, (∃ k47, I46 0 w44 k47) ∧
          ∀ (i_49 : Int) (w50 : World) (k47 : Nat) (_ : Fr), I46 i_49 w50 k47 →
          cnd (decide (i_49 < (r45_n : Int)))
            (ixK r21_p r21_n i_49 1 fun a51 =>
              ∃ x52 : Bool, w50.drew.cell? a51 = some (.bool x52) ∧ 
              ixK r45_p r45_n i_49 1 fun a53 =>
              ∃ x54 : Bool, w50.drew.cell? a53 = some (.bool x54) ∧ 
              cnd (!(x52 == x54))
              (K (.bool false) w50.drew)
              (∃ k48, k48 < k47 ∧ I46 (IntKind.i64.wrap (i_49 + (1 : Int))) w50.drew k48))
            (Calls Try.prog 22 #[.slice g__p g__n g__c, .slice clauses__p clauses__n clauses__c] w50 fun e w55 => ∃ r56 : Bool, e = .returned (.bool r56) ∧ 
              cnd (!r56)
              (Calls Try.prog 20 #[] w55 fun e w57 => ∃ r58 : Bool, e = .returned (.bool r58) ∧ 
                K (.bool r58) w57)
              (∃ x59_p : Option Addr, ∃ x59_n : Nat, ∃ x59_c : Nat, w55.drew.cell? ((Addr.mk n1 0 none).add 2) = some (.slice x59_p x59_n x59_c) ∧ 
                (Calls Try.prog 39 #[.slice g__p g__n g__c, .slice clauses__p clauses__n clauses__c, .slice x59_p x59_n x59_c] w55.drew fun e w60 => ∃ r61 : Bool, e = .returned (.bool r61) ∧ 
                ∃ x62_p : Option Addr, ∃ x62_n : Nat, ∃ x62_c : Nat, w60.cell? ((Addr.mk n1 0 none).add 2) = some (.slice x62_p x62_n x62_c) ∧ 
                Calls Try.prog 31 #[.slice g__p g__n g__c, .slice clauses__p clauses__n clauses__c, .slice x62_p x62_n x62_c] w60 fun e w63 => ∃ r64 : Bool, e = .returned (.bool r64) ∧ 
                cnd (r61 == r64)
                (Calls Try.prog 20 #[] w63 fun e w65 => ∃ r66 : Bool, e = .returned (.bool r66) ∧ 
                K (.bool r66) w65)
                (K (.bool false) w63)) ∧
              (∃ x67_p : Option Addr, ∃ x67_n : Nat, ∃ x67_c : Nat, w55.drew.cell? ((Addr.mk n1 0 none).add 2) = some (.slice x67_p x67_n x67_c) ∧ 
                Calls Try.prog 39 #[.slice g__p g__n g__c, .slice clauses__p clauses__n clauses__c, .slice x59_p x59_n x59_c] w55.drew fun e w68 => ∃ r69 : Bool, e = .returned (.bool r69) ∧ 
                Calls Try.prog 31 #[.slice g__p g__n g__c, .slice clauses__p clauses__n clauses__c, .slice x67_p x67_n x67_c] w68 fun e w70 => ∃ r71 : Bool, e = .returned (.bool r71) ∧ 
                cnd (r69 == r71)
                (Calls Try.prog 20 #[] w70 fun e w72 => ∃ r73 : Bool, e = .returned (.bool r73) ∧ 
                K (.bool r73) w72)
                (K (.bool false) w70))))))))
theorem fathomlaw18_TseitinReads.eq (g__p : Option Addr) (g__n : Nat) (g__c : Nat) (clauses__p : Option Addr) (clauses__n : Nat) (clauses__c : Nat) (x2_0_p : Option Addr) (x2_0_n : Nat) (x2_0_c : Nat) (x2_1_p : Option Addr) (x2_1_n : Nat) (x2_1_c : Nat) (x2_2_p : Option Addr) (x2_2_n : Nat) (x2_2_c : Nat) (w : World) (K : Value → World → Prop) : wpF Try.prog Try.f8 (.two .leaf (.two .leaf (.two .leaf (.two .leaf (.two (.two .leaf (.two .leaf (.two .leaf (.two .leaf (.two .leaf (.one (.loop [(9, 3)] .leaf))))))) .leaf))))) [.slice g__p g__n g__c, .slice clauses__p clauses__n clauses__c, .agg #[.slice x2_0_p x2_0_n x2_0_c, .slice x2_1_p x2_1_n x2_1_c, .slice x2_2_p x2_2_n x2_2_c]] w K = fathomlaw18_TseitinReads.w g__p g__n g__c clauses__p clauses__n clauses__c x2_0_p x2_0_n x2_0_c x2_1_p x2_1_n x2_1_c x2_2_p x2_2_n x2_2_c w K := by kernel_rfl
theorem fathomlaw18_TseitinReads.ok : fnOk Try.prog Try.f8 3 = true := by kernel_rfl
theorem fathomlaw18_TseitinReads.calls {g__p : Option Addr} {g__n : Nat} {g__c : Nat} {clauses__p : Option Addr} {clauses__n : Nat} {clauses__c : Nat} {x2_0_p : Option Addr} {x2_0_n : Nat} {x2_0_c : Nat} {x2_1_p : Option Addr} {x2_1_n : Nat} {x2_1_c : Nat} {x2_2_p : Option Addr} {x2_2_n : Nat} {x2_2_c : Nat} {w : World} {R : Ending → World → Prop} (h : fathomlaw18_TseitinReads.w g__p g__n g__c clauses__p clauses__n clauses__c x2_0_p x2_0_n x2_0_c x2_1_p x2_1_n x2_1_c x2_2_p x2_2_n x2_2_c w fun v w' => R (.returned v) w') : Calls Try.prog 8 #[.slice g__p g__n g__c, .slice clauses__p clauses__n clauses__c, .agg #[.slice x2_0_p x2_0_n x2_0_c, .slice x2_1_p x2_1_n x2_1_c, .slice x2_2_p x2_2_n x2_2_c]] w R :=
  calls_of mixed Try.func8 fathomlaw18_TseitinReads.ok rfl (fun K => fathomlaw18_TseitinReads.eq g__p g__n g__c clauses__p clauses__n clauses__c x2_0_p x2_0_n x2_0_c x2_1_p x2_1_n x2_1_c x2_2_p x2_2_n x2_2_c w K) h

/-! ### fathom/fathomlaw18.light: function 19 (named slots 6) -/
def fathomlaw18_light.w (g__p : Option Addr) (g__n : Nat) (g__c : Nat) (clauses__p : Option Addr) (clauses__n : Nat) (clauses__c : Nat) (w : World) (K : Value → World → Prop) : Prop :=
  ∃ I1 : Int → World → Nat → Prop, (∃ k2, I1 0 w k2) ∧
  ∀ (i_4 : Int) (w5 : World) (k2 : Nat) (_ : Fr), I1 i_4 w5 k2 →
  cnd (decide (i_4 < (clauses__n : Int)))
    (cnd (decide (i_4 ≤ (12 : Int)))
    (ixK clauses__p clauses__n i_4 1 fun a6 =>
      ∃ x7_p : Option Addr, ∃ x7_n : Nat, ∃ x7_c : Nat, w5.cell? a6 = some (.slice x7_p x7_n x7_c) ∧ 
      cnd (decide ((x7_n : Int) > (30 : Int)))
      (K (.bool false) w5)
      (∃ k3, k3 < k2 ∧ I1 (IntKind.i64.wrap (i_4 + (1 : Int))) w5 k3))
    (cnd (decide ((g__n : Int) ≤ (12 : Int)))
      (K (.bool (decide ((clauses__n : Int) ≤ (12 : Int)))) w5)
      (K (.bool false) w5)))
    (cnd (decide ((g__n : Int) ≤ (12 : Int)))
    (K (.bool (decide ((clauses__n : Int) ≤ (12 : Int)))) w5)
    (K (.bool false) w5))
theorem fathomlaw18_light.eq (g__p : Option Addr) (g__n : Nat) (g__c : Nat) (clauses__p : Option Addr) (clauses__n : Nat) (clauses__c : Nat) (w : World) (K : Value → World → Prop) : wpF Try.prog Try.f19 (.two .leaf (.two (.two .leaf (.one (.loop [(5, 3)] .leaf))) .leaf)) [.slice g__p g__n g__c, .slice clauses__p clauses__n clauses__c] w K = fathomlaw18_light.w g__p g__n g__c clauses__p clauses__n clauses__c w K := by kernel_rfl
theorem fathomlaw18_light.ok : fnOk Try.prog Try.f19 2 = true := by kernel_rfl
theorem fathomlaw18_light.calls {g__p : Option Addr} {g__n : Nat} {g__c : Nat} {clauses__p : Option Addr} {clauses__n : Nat} {clauses__c : Nat} {w : World} {R : Ending → World → Prop} (h : fathomlaw18_light.w g__p g__n g__c clauses__p clauses__n clauses__c w fun v w' => R (.returned v) w') : Calls Try.prog 19 #[.slice g__p g__n g__c, .slice clauses__p clauses__n clauses__c] w R :=
  calls_of mixed Try.func19 fathomlaw18_light.ok rfl (fun K => fathomlaw18_light.eq g__p g__n g__c clauses__p clauses__n clauses__c w K) h

/-! ### fathom/fathomlaw18.awake: function 20 (named slots 3) -/
def fathomlaw18_awake.w (w : World) (K : Value → World → Prop) : Prop :=
  ∀ (n1 : Nat) (w2 : World), New (.cells #[.int .i64 (-1), .int .i64 (-1), .int .i64 (-1), .int .i64 (-1), .int .i64 2, .int .i64 4] 76) w n1 w2 → 
  ∀ (n3 : Nat) (w4 : World), New (.cells #[.int .i64 6] 3) w2 n3 w4 → 
  ∀ (n5 : Nat) (w6 : World), New (.cells #[.slice (some (Addr.mk n3 0 none)) 1 1] 24) w4 n5 w6 → 
  Calls Try.prog 21 #[.slice (some (Addr.mk n1 0 none)) 3 3, .slice (some (Addr.mk n5 0 none)) 1 1] w6 fun e w7 => ∃ r8 : Int, ∃ r9_p : Option Addr, ∃ r9_n : Nat, ∃ r9_c : Nat, ∃ r10_p : Option Addr, ∃ r10_n : Nat, ∃ r10_c : Nat, ∃ r11 : Int, e = .returned (.tuple #[.agg #[.int .i64 r8, .slice r9_p r9_n r9_c, .slice r10_p r10_n r10_c], .int .i64 r11]) ∧ 
  ∀ (n12 : Nat) (w13 : World), New (.cells #[.int .i64 0, .slice none 0 0, .slice none 0 0] 39) w7 n12 w13 → 
  ∃ w14 : World, StoreAt (Addr.mk n12 0 none) 0 [.int .i64 r8, .slice r9_p r9_n r9_c, .slice r10_p r10_n r10_c] w13 w14 ∧ 
  cnd (r11 == (0 : Int))
  (∃ x15 : Int, w14.cell? (((Addr.mk n12 0 none).add 0).add 0) = some (.int .i64 x15) ∧ 
  cnd (x15 == (3 : Int))
  (∃ x16_p : Option Addr, ∃ x16_n : Nat, ∃ x16_c : Nat, w14.cell? (((Addr.mk n12 0 none).add 0).add 1) = some (.slice x16_p x16_n x16_c) ∧ 
  cnd ((x16_n : Int) == (4 : Int))
  (∃ x17 : Int, ∃ x18_p : Option Addr, ∃ x18_n : Nat, ∃ x18_c : Nat, ∃ x19_p : Option Addr, ∃ x19_n : Nat, ∃ x19_c : Nat, CellsAt w14 (Addr.mk n12 0 none) 0 [.int .i64 x17, .slice x18_p x18_n x18_c, .slice x19_p x19_n x19_c] ∧ 
  Calls Try.prog 26 #[.agg #[.int .i64 x17, .slice x18_p x18_n x18_c, .slice x19_p x19_n x19_c], .int .i64 7] w14 fun e w20 => ∃ r21 : Int, e = .returned (.int .i64 r21) ∧ 
  K (.bool (r21 == (-3))) w20)
  (K (.bool false) w14))
  (K (.bool false) w14))
  (K (.bool false) w14)
theorem fathomlaw18_awake.eq (w : World) (K : Value → World → Prop) : wpF Try.prog Try.f20 .leaf [] w K = fathomlaw18_awake.w  w K := by kernel_rfl
theorem fathomlaw18_awake.ok : fnOk Try.prog Try.f20 0 = true := by kernel_rfl
theorem fathomlaw18_awake.calls {w : World} {R : Ending → World → Prop} (h : fathomlaw18_awake.w  w fun v w' => R (.returned v) w') : Calls Try.prog 20 #[] w R :=
  calls_of mixed Try.func20 fathomlaw18_awake.ok rfl (fun K => fathomlaw18_awake.eq  w K) h

/-! ### fathom/tseitin.Build: function 21 (named slots 15) -/
def tseitin_Build.w (g__p : Option Addr) (g__n : Nat) (g__c : Nat) (clauses__p : Option Addr) (clauses__n : Nat) (clauses__c : Nat) (w : World) (K : Value → World → Prop) : Prop :=
  ∀ (n1 : Nat) (w2 : World), New (.cells #[.int .i64 0, .slice none 0 0, .slice none 0 0] 39) w n1 w2 → 
  Calls Try.prog 49 #[.slice g__p g__n g__c, .slice clauses__p clauses__n clauses__c] w2 fun e w3 => ∃ r4 : Bool, e = .returned (.bool r4) ∧ 
  cnd (!r4)
  (∃ w5 : World, StoreAt (Addr.mk n1 0 none) 0 [.int .i64 0, .slice none 0 0, .slice none 0 0] w3 w5 ∧ 
    ∃ x6 : Int, ∃ x7_p : Option Addr, ∃ x7_n : Nat, ∃ x7_c : Nat, ∃ x8_p : Option Addr, ∃ x8_n : Nat, ∃ x8_c : Nat, CellsAt w5 (Addr.mk n1 0 none) 0 [.int .i64 x6, .slice x7_p x7_n x7_c, .slice x8_p x8_n x8_c] ∧ 
    K (.tuple #[.agg #[.int .i64 x6, .slice x7_p x7_n x7_c, .slice x8_p x8_n x8_c], .int .i64 1]) w5)
  (Calls Try.prog 50 #[.slice g__p g__n g__c, .slice clauses__p clauses__n clauses__c] w3 fun e w9 => ∃ r10_p : Option Addr, ∃ r10_n : Nat, ∃ r10_c : Nat, e = .returned (.slice r10_p r10_n r10_c) ∧ 
    ∀ (n11 : Nat) (w12 : World), New (.cells #[.int .i64 0, .slice none 0 0, .slice none 0 0] 80) w9 n11 w12 → 
    ∃ I13 : Int → World → Nat → Prop, (∃ k14, I13 0 w12 k14) ∧
    ∀ (v16 : Int) (w17 : World) (k14 : Nat) (_ : Fr), I13 v16 w17 k14 →
    cnd (decide (v16 < (g__n : Int)))
      (ixK r10_p r10_n (IntKind.i64.wrap (v16 + (1 : Int))) 1 fun a18 =>
        ∃ x19 : Bool, w17.cell? a18 = some (.bool x19) ∧ 
        cnd x19
        (∃ a20 : Addr, (some (Addr.mk n11 0 none)) = some a20 ∧ ∃ x21 : Int, w17.cell? (((a20.add 0).add 0).add 0) = some (.int .i64 x21) ∧ 
          ∃ a22 : Addr, (some (Addr.mk n11 0 none)) = some a22 ∧ ∃ w23 : World, StoreAt (((a22.add 0).add 0).add 0) 0 [.int .i64 (IntKind.i64.wrap (x21 + (1 : Int)))] w17 w23 ∧ 
          ∃ a24 : Addr, (some (Addr.mk n11 0 none)) = some a24 ∧ ∃ x25 : Int, w23.cell? (((a24.add 0).add 0).add 0) = some (.int .i64 x25) ∧ 
          ∃ a26 : Addr, (some (Addr.mk n11 0 none)) = some a26 ∧ ∃ x27_p : Option Addr, ∃ x27_n : Nat, ∃ x27_c : Nat, w23.cell? ((a26.add 0).add 2) = some (.slice x27_p x27_n x27_c) ∧ 
          ∀ (n28 : Nat) (w29 : World), New (.cells #[.int .i64 x25] 3) w23 n28 w29 → 
          ∃ w30 : World, ∃ r31_p : Option Addr, ∃ r31_n : Nat, ∃ r31_c : Nat, (Builtin.append_ #[24, 24] 24 #[.slice x27_p x27_n x27_c, .slice (some (Addr.mk n28 0 none)) 1 1]).run Try.prog w29 = .ok (.slice r31_p r31_n r31_c) w30 ∧ 
          ∃ a32 : Addr, (some (Addr.mk n11 0 none)) = some a32 ∧ ∃ w33 : World, StoreAt ((a32.add 0).add 2) 0 [.slice r31_p r31_n r31_c] w30 w33 ∧ 
          ∃ k15, k15 < k14 ∧ I13 (IntKind.i64.wrap (v16 + (1 : Int))) w33 k15)
        (∃ a34 : Addr, (some (Addr.mk n11 0 none)) = some a34 ∧ ∃ x35_p : Option Addr, ∃ x35_n : Nat, ∃ x35_c : Nat, w17.cell? ((a34.add 0).add 2) = some (.slice x35_p x35_n x35_c) ∧ 
          ∀ (n36 : Nat) (w37 : World), New (.cells #[.int .i64 0] 3) w17 n36 w37 → 
          ∃ w38 : World, ∃ r39_p : Option Addr, ∃ r39_n : Nat, ∃ r39_c : Nat, (Builtin.append_ #[24, 24] 24 #[.slice x35_p x35_n x35_c, .slice (some (Addr.mk n36 0 none)) 1 1]).run Try.prog w37 = .ok (.slice r39_p r39_n r39_c) w38 ∧ 
          ∃ a40 : Addr, (some (Addr.mk n11 0 none)) = some a40 ∧ ∃ w41 : World, StoreAt ((a40.add 0).add 2) 0 [.slice r39_p r39_n r39_c] w38 w41 ∧ 
          ∃ k15, k15 < k14 ∧ I13 (IntKind.i64.wrap (v16 + (1 : Int))) w41 k15))
      (∃ I42 : Int → World → Nat → Prop, (∃ k43, I42 0 w17 k43) ∧
        ∀ (v45 : Int) (w46 : World) (k43 : Nat) (_ : Fr), I42 v45 w46 k43 →
        cnd (decide (v45 < (g__n : Int)))
          (ixK g__p g__n v45 2 fun a47 =>
            ∃ x48 : Int, ∃ x49 : Int, CellsAt w46 a47 0 [.int .i64 x48, .int .i64 x49] ∧ 
            ∀ (n50 : Nat) (w51 : World), New (.cells #[.int .i64 0, .int .i64 0] 76) w46 n50 w51 → 
            ∃ w52 : World, StoreAt (Addr.mk n50 0 none) 0 [.int .i64 x48, .int .i64 x49] w51 w52 ∧ 
            ixK r10_p r10_n (IntKind.i64.wrap (v45 + (1 : Int))) 1 fun a53 =>
            ∃ x54 : Bool, w52.cell? a53 = some (.bool x54) ∧ 
            cnd (!x54)
            (∃ k44, k44 < k43 ∧ I42 (IntKind.i64.wrap (v45 + (1 : Int))) w52 k44)
            (∃ x55 : Int, ∃ x56 : Int, CellsAt w52 (Addr.mk n50 0 none) 0 [.int .i64 x55, .int .i64 x56] ∧ 
            Calls Try.prog 51 #[.agg #[.int .i64 x55, .int .i64 x56]] w52 fun e w57 => ∃ r58 : Bool, e = .returned (.bool r58) ∧ 
            cnd (!r58)
            (∃ k44, k44 < k43 ∧ I42 (IntKind.i64.wrap (v45 + (1 : Int))) w57 k44)
            (∃ x59 : Int, w57.cell? ((Addr.mk n50 0 none).add 0) = some (.int .i64 x59) ∧ 
              ∀ (n60 : Nat) (w61 : World), New (.cells #[.int .i64 (IntKind.i64.wrap ((BitVec.ofInt (IntKind.bits .i64) (IntKind.i64.wrap ((2 : Int) * (IntKind.i64.wrap (v45 + (1 : Int))))) ^^^ BitVec.ofInt (IntKind.bits .i64) (1 : Int)).toNat)), .int .i64 x59] 3) w57 n60 w61 → 
              Calls Try.prog 52 #[.pointer (some (Addr.mk n11 0 none)), .slice (some (Addr.mk n60 0 none)) 2 2] w61 fun e w62 => e = .returned (.tuple #[]) ∧ 
              ∃ x63 : Int, w62.cell? ((Addr.mk n50 0 none).add 1) = some (.int .i64 x63) ∧ 
              ∀ (n64 : Nat) (w65 : World), New (.cells #[.int .i64 (IntKind.i64.wrap ((BitVec.ofInt (IntKind.bits .i64) (IntKind.i64.wrap ((2 : Int) * (IntKind.i64.wrap (v45 + (1 : Int))))) ^^^ BitVec.ofInt (IntKind.bits .i64) (1 : Int)).toNat)), .int .i64 x63] 3) w62 n64 w65 → 
              Calls Try.prog 52 #[.pointer (some (Addr.mk n11 0 none)), .slice (some (Addr.mk n64 0 none)) 2 2] w65 fun e w66 => e = .returned (.tuple #[]) ∧ 
              ∃ x67 : Int, w66.cell? ((Addr.mk n50 0 none).add 0) = some (.int .i64 x67) ∧ 
              ∃ x68 : Int, w66.cell? ((Addr.mk n50 0 none).add 1) = some (.int .i64 x68) ∧ 
              ∀ (n69 : Nat) (w70 : World), New (.cells #[.int .i64 (IntKind.i64.wrap ((2 : Int) * (IntKind.i64.wrap (v45 + (1 : Int))))), .int .i64 (IntKind.i64.wrap ((BitVec.ofInt (IntKind.bits .i64) x67 ^^^ BitVec.ofInt (IntKind.bits .i64) (1 : Int)).toNat)), .int .i64 (IntKind.i64.wrap ((BitVec.ofInt (IntKind.bits .i64) x68 ^^^ BitVec.ofInt (IntKind.bits .i64) (1 : Int)).toNat))] 3) w66 n69 w70 → 
              Calls Try.prog 52 #[.pointer (some (Addr.mk n11 0 none)), .slice (some (Addr.mk n69 0 none)) 3 3] w70 fun e w71 => e = .returned (.tuple #[]) ∧ 
              ∃ k44, k44 < k43 ∧ I42 (IntKind.i64.wrap (v45 + (1 : Int))) w71 k44)))
          (∃ I72 : Int → World → Nat → Prop, (∃ k73, I72 0 w46 k73) ∧
            ∀ (v75 : Int) (w76 : World) (k73 : Nat) (_ : Fr), I72 v75 w76 k73 →
            cnd (decide (v75 < (clauses__n : Int)))
              (ixK clauses__p clauses__n v75 1 fun a77 =>
                ∃ x78_p : Option Addr, ∃ x78_n : Nat, ∃ x78_c : Nat, w76.cell? a77 = some (.slice x78_p x78_n x78_c) ∧ 
                Calls Try.prog 52 #[.pointer (some (Addr.mk n11 0 none)), .slice x78_p x78_n x78_c] w76 fun e w79 => e = .returned (.tuple #[]) ∧ 
                ∃ k74, k74 < k73 ∧ I72 (IntKind.i64.wrap (v75 + (1 : Int))) w79 k74)
              (∃ a80 : Addr, (some (Addr.mk n11 0 none)) = some a80 ∧ ∃ x81 : Int, ∃ x82_p : Option Addr, ∃ x82_n : Nat, ∃ x82_c : Nat, CellsAt w76 ((a80.add 0).add 0) 0 [.int .i64 x81, .slice x82_p x82_n x82_c] ∧ 
                Calls Try.prog 53 #[.agg #[.int .i64 x81, .slice x82_p x82_n x82_c]] w76 fun e w83 => ∃ r84 : Int, e = .returned (.int .i64 r84) ∧ 
                cnd (r84 != (0 : Int))
                (∃ w85 : World, StoreAt (Addr.mk n1 0 none) 0 [.int .i64 0, .slice none 0 0, .slice none 0 0] w83 w85 ∧ 
                  ∃ x86 : Int, ∃ x87_p : Option Addr, ∃ x87_n : Nat, ∃ x87_c : Nat, ∃ x88_p : Option Addr, ∃ x88_n : Nat, ∃ x88_c : Nat, CellsAt w85 (Addr.mk n1 0 none) 0 [.int .i64 x86, .slice x87_p x87_n x87_c, .slice x88_p x88_n x88_c] ∧ 
                  K (.tuple #[.agg #[.int .i64 x86, .slice x87_p x87_n x87_c, .slice x88_p x88_n x88_c], .int .i64 5]) w85)
                (∃ a89 : Addr, (some (Addr.mk n11 0 none)) = some a89 ∧ ∃ x90 : Int, ∃ x91_p : Option Addr, ∃ x91_n : Nat, ∃ x91_c : Nat, ∃ x92_p : Option Addr, ∃ x92_n : Nat, ∃ x92_c : Nat, CellsAt w83 (a89.add 0) 0 [.int .i64 x90, .slice x91_p x91_n x91_c, .slice x92_p x92_n x92_c] ∧ 
                  ∃ w93 : World, StoreAt (Addr.mk n1 0 none) 0 [.int .i64 x90, .slice x91_p x91_n x91_c, .slice x92_p x92_n x92_c] w83 w93 ∧ 
                  ∃ x94 : Int, ∃ x95_p : Option Addr, ∃ x95_n : Nat, ∃ x95_c : Nat, ∃ x96_p : Option Addr, ∃ x96_n : Nat, ∃ x96_c : Nat, CellsAt w93 (Addr.mk n1 0 none) 0 [.int .i64 x94, .slice x95_p x95_n x95_c, .slice x96_p x96_n x96_c] ∧ 
                  K (.tuple #[.agg #[.int .i64 x94, .slice x95_p x95_n x95_c, .slice x96_p x96_n x96_c], .int .i64 0]) w93)))))
theorem tseitin_Build.eq (g__p : Option Addr) (g__n : Nat) (g__c : Nat) (clauses__p : Option Addr) (clauses__n : Nat) (clauses__c : Nat) (w : World) (K : Value → World → Prop) : wpF Try.prog Try.f21 (.two .leaf (.two .leaf (.two .leaf (.two .leaf (.two (.two .leaf (.one (.loop [(27, 3)] .leaf))) (.two (.two .leaf (.one (.loop [(67, 3)] .leaf))) (.two (.two .leaf (.one (.loop [(113, 3)] .leaf))) .leaf))))))) [.slice g__p g__n g__c, .slice clauses__p clauses__n clauses__c] w K = tseitin_Build.w g__p g__n g__c clauses__p clauses__n clauses__c w K := by kernel_rfl
theorem tseitin_Build.ok : fnOk Try.prog Try.f21 2 = true := by kernel_rfl
theorem tseitin_Build.calls {g__p : Option Addr} {g__n : Nat} {g__c : Nat} {clauses__p : Option Addr} {clauses__n : Nat} {clauses__c : Nat} {w : World} {R : Ending → World → Prop} (h : tseitin_Build.w g__p g__n g__c clauses__p clauses__n clauses__c w fun v w' => R (.returned v) w') : Calls Try.prog 21 #[.slice g__p g__n g__c, .slice clauses__p clauses__n clauses__c] w R :=
  calls_of mixed Try.func21 tseitin_Build.ok rfl (fun K => tseitin_Build.eq g__p g__n g__c clauses__p clauses__n clauses__c w K) h

/-! ### fathom/fathomref18.May: function 22 (named slots 7) -/
def fathomref18_May.w (g__p : Option Addr) (g__n : Nat) (g__c : Nat) (clauses__p : Option Addr) (clauses__n : Nat) (clauses__c : Nat) (w : World) (K : Value → World → Prop) : Prop :=
  ∃ I1 : Int → World → Nat → Prop, (∃ k2, I1 0 w k2) ∧
  ∀ (i_4 : Int) (w5 : World) (k2 : Nat) (_ : Fr), I1 i_4 w5 k2 →
  cnd (decide (i_4 < (clauses__n : Int)))
    (∃ I6 : Int → World → Nat → Prop, (∃ k7, I6 0 w5 k7) ∧
      ∀ (k_9 : Int) (w10 : World) (k7 : Nat) (_ : Fr), I6 k_9 w10 k7 →
      ixK clauses__p clauses__n i_4 1 fun a11 =>
        ∃ x12_p : Option Addr, ∃ x12_n : Nat, ∃ x12_c : Nat, w10.cell? a11 = some (.slice x12_p x12_n x12_c) ∧ 
        cnd (decide (k_9 < (x12_n : Int)))
        (ixK clauses__p clauses__n i_4 1 fun a13 =>
          ∃ x14_p : Option Addr, ∃ x14_n : Nat, ∃ x14_c : Nat, w10.cell? a13 = some (.slice x14_p x14_n x14_c) ∧ 
          ixK x14_p x14_n k_9 1 fun a15 =>
          ∃ x16 : Int, w10.cell? a15 = some (.int .i64 x16) ∧ 
          Calls Try.prog 54 #[.slice g__p g__n g__c, .int .i64 x16] w10 fun e w17 => ∃ r18 : Bool, e = .returned (.bool r18) ∧ 
          cnd (!r18)
          (K (.bool false) w17)
          (∃ k8, k8 < k7 ∧ I6 (IntKind.i64.wrap (k_9 + (1 : Int))) w17 k8))
        (ixK clauses__p clauses__n i_4 1 fun a19 =>
          ∃ x20_p : Option Addr, ∃ x20_n : Nat, ∃ x20_c : Nat, w10.cell? a19 = some (.slice x20_p x20_n x20_c) ∧ 
          cnd (decide ((x20_n : Int) > (4096 : Int)))
          (K (.bool false) w10)
          (∃ k3, k3 < k2 ∧ I1 (IntKind.i64.wrap (i_4 + (1 : Int))) w10 k3)))
    (Calls Try.prog 38 #[.slice g__p g__n g__c] w5 fun e w21 => ∃ r22 : Bool, e = .returned (.bool r22) ∧ 
      K (.bool r22) w21)
theorem fathomref18_May.eq (g__p : Option Addr) (g__n : Nat) (g__c : Nat) (clauses__p : Option Addr) (clauses__n : Nat) (clauses__c : Nat) (w : World) (K : Value → World → Prop) : wpF Try.prog Try.f22 (.two .leaf (.two (.two .leaf (.one (.loop [(5, 3)] (.two .leaf (.two (.one (.two (.two .leaf (.one (.loop [(6, 3)] .leaf))) .leaf)) .leaf))))) .leaf)) [.slice g__p g__n g__c, .slice clauses__p clauses__n clauses__c] w K = fathomref18_May.w g__p g__n g__c clauses__p clauses__n clauses__c w K := by kernel_rfl
theorem fathomref18_May.ok : fnOk Try.prog Try.f22 2 = true := by kernel_rfl
theorem fathomref18_May.calls {g__p : Option Addr} {g__n : Nat} {g__c : Nat} {clauses__p : Option Addr} {clauses__n : Nat} {clauses__c : Nat} {w : World} {R : Ending → World → Prop} (h : fathomref18_May.w g__p g__n g__c clauses__p clauses__n clauses__c w fun v w' => R (.returned v) w') : Calls Try.prog 22 #[.slice g__p g__n g__c, .slice clauses__p clauses__n clauses__c] w R :=
  calls_of mixed Try.func22 fathomref18_May.ok rfl (fun K => fathomref18_May.eq g__p g__n g__c clauses__p clauses__n clauses__c w K) h

/-! ### fathom/fathomref01.Same: function 23 (named slots 5) -/
def fathomref01_Same.w (a_0 : Int) (a_1_p : Option Addr) (a_1_n : Nat) (a_1_c : Nat) (b_0 : Int) (b_1_p : Option Addr) (b_1_n : Nat) (b_1_c : Nat) (w : World) (K : Value → World → Prop) : Prop :=
  ∀ (n1 : Nat) (w2 : World), New (.cells #[.int .i64 a_0, .slice a_1_p a_1_n a_1_c] 37) w n1 w2 → 
  ∀ (n3 : Nat) (w4 : World), New (.cells #[.int .i64 b_0, .slice b_1_p b_1_n b_1_c] 37) w2 n3 w4 → 
  ∃ x5 : Int, w4.cell? ((Addr.mk n1 0 none).add 0) = some (.int .i64 x5) ∧ 
  ∃ x6 : Int, w4.cell? ((Addr.mk n3 0 none).add 0) = some (.int .i64 x6) ∧ 
  cnd (x5 == x6)
  (∃ x7_p : Option Addr, ∃ x7_n : Nat, ∃ x7_c : Nat, w4.cell? ((Addr.mk n1 0 none).add 1) = some (.slice x7_p x7_n x7_c) ∧ 
  ∃ x8_p : Option Addr, ∃ x8_n : Nat, ∃ x8_c : Nat, w4.cell? ((Addr.mk n3 0 none).add 1) = some (.slice x8_p x8_n x8_c) ∧ 
  Calls Try.prog 55 #[.slice x7_p x7_n x7_c, .slice x8_p x8_n x8_c] w4 fun e w9 => ∃ r10 : Bool, e = .returned (.bool r10) ∧ 
  K (.bool r10) w9)
  (K (.bool false) w4)
theorem fathomref01_Same.eq (a_0 : Int) (a_1_p : Option Addr) (a_1_n : Nat) (a_1_c : Nat) (b_0 : Int) (b_1_p : Option Addr) (b_1_n : Nat) (b_1_c : Nat) (w : World) (K : Value → World → Prop) : wpF Try.prog Try.f23 .leaf [.agg #[.int .i64 a_0, .slice a_1_p a_1_n a_1_c], .agg #[.int .i64 b_0, .slice b_1_p b_1_n b_1_c]] w K = fathomref01_Same.w a_0 a_1_p a_1_n a_1_c b_0 b_1_p b_1_n b_1_c w K := by kernel_rfl
theorem fathomref01_Same.ok : fnOk Try.prog Try.f23 2 = true := by kernel_rfl
theorem fathomref01_Same.calls {a_0 : Int} {a_1_p : Option Addr} {a_1_n : Nat} {a_1_c : Nat} {b_0 : Int} {b_1_p : Option Addr} {b_1_n : Nat} {b_1_c : Nat} {w : World} {R : Ending → World → Prop} (h : fathomref01_Same.w a_0 a_1_p a_1_n a_1_c b_0 b_1_p b_1_n b_1_c w fun v w' => R (.returned v) w') : Calls Try.prog 23 #[.agg #[.int .i64 a_0, .slice a_1_p a_1_n a_1_c], .agg #[.int .i64 b_0, .slice b_1_p b_1_n b_1_c]] w R :=
  calls_of mixed Try.func23 fathomref01_Same.ok rfl (fun K => fathomref01_Same.eq a_0 a_1_p a_1_n a_1_c b_0 b_1_p b_1_n b_1_c w K) h

/-! ### fathom/fathomref18.Build: function 24 (named slots 16) -/
def fathomref18_Build.w (g__p : Option Addr) (g__n : Nat) (g__c : Nat) (clauses__p : Option Addr) (clauses__n : Nat) (clauses__c : Nat) (w : World) (K : Value → World → Prop) : Prop :=
  ∀ (n1 : Nat) (w2 : World), New (.cells #[.int .i64 0, .slice none 0 0, .slice none 0 0] 39) w n1 w2 → 
  ∀ (n3 : Nat) (w4 : World), New (.cells #[.int .i64 0, .slice none 0 0, .slice none 0 0] 39) w2 n3 w4 → 
  ∃ w5 : World, StoreAt (Addr.mk n3 0 none) 0 [.int .i64 0, .slice none 0 0, .slice none 0 0] w4 w5 ∧ 
  ∃ I6 : Int → World → Nat → Prop, (∃ k7, I6 0 w5 k7) ∧
  ∀ (i_9 : Int) (w10 : World) (k7 : Nat) (_ : Fr), I6 i_9 w10 k7 →
  cnd (decide (i_9 < (g__n : Int)))
    (Calls Try.prog 56 #[.slice g__p g__n g__c, .slice clauses__p clauses__n clauses__c, .int .i64 (IntKind.i64.wrap (i_9 + (1 : Int)))] w10 fun e w11 => ∃ r12 : Bool, e = .returned (.bool r12) ∧ 
      cnd r12
      (∃ x13 : Int, w11.cell? (((Addr.mk n3 0 none).add 0).add 0) = some (.int .i64 x13) ∧ 
        ∃ w14 : World, StoreAt (((Addr.mk n3 0 none).add 0).add 0) 0 [.int .i64 (IntKind.i64.wrap (x13 + (1 : Int)))] w11 w14 ∧ 
        ∃ x15 : Int, w14.cell? (((Addr.mk n3 0 none).add 0).add 0) = some (.int .i64 x15) ∧ 
        ∃ x16_p : Option Addr, ∃ x16_n : Nat, ∃ x16_c : Nat, w14.cell? ((Addr.mk n3 0 none).add 2) = some (.slice x16_p x16_n x16_c) ∧ 
        ∀ (n17 : Nat) (w18 : World), New (.cells #[.int .i64 x15] 3) w14 n17 w18 → 
        ∃ w19 : World, ∃ r20_p : Option Addr, ∃ r20_n : Nat, ∃ r20_c : Nat, (Builtin.append_ #[24, 24] 24 #[.slice x16_p x16_n x16_c, .slice (some (Addr.mk n17 0 none)) 1 1]).run Try.prog w18 = .ok (.slice r20_p r20_n r20_c) w19 ∧ 
        ∃ w21 : World, StoreAt ((Addr.mk n3 0 none).add 2) 0 [.slice r20_p r20_n r20_c] w19 w21 ∧ 
        ∃ k8, k8 < k7 ∧ I6 (IntKind.i64.wrap (i_9 + (1 : Int))) w21 k8)
      (∃ x22_p : Option Addr, ∃ x22_n : Nat, ∃ x22_c : Nat, w11.cell? ((Addr.mk n3 0 none).add 2) = some (.slice x22_p x22_n x22_c) ∧ 
        ∀ (n23 : Nat) (w24 : World), New (.cells #[.int .i64 0] 3) w11 n23 w24 → 
        ∃ w25 : World, ∃ r26_p : Option Addr, ∃ r26_n : Nat, ∃ r26_c : Nat, (Builtin.append_ #[24, 24] 24 #[.slice x22_p x22_n x22_c, .slice (some (Addr.mk n23 0 none)) 1 1]).run Try.prog w24 = .ok (.slice r26_p r26_n r26_c) w25 ∧ 
        ∃ w27 : World, StoreAt ((Addr.mk n3 0 none).add 2) 0 [.slice r26_p r26_n r26_c] w25 w27 ∧ 
        ∃ k8, k8 < k7 ∧ I6 (IntKind.i64.wrap (i_9 + (1 : Int))) w27 k8))
    (∀ (n28 : Nat) (w29 : World), New (.cells #[] 24) w10 n28 w29 → 
      ∃ I30 : Option Addr → Nat → Nat → Int → World → Nat → Prop, (∃ k31, I30 (some (Addr.mk n28 0 none)) 0 0 0 w29 k31) ∧
      ∀ (all_33_p : Option Addr) (all_33_n : Nat) (all_33_c : Nat) (i_34 : Int) (w35 : World) (k31 : Nat) (_ : Fr), I30 all_33_p all_33_n all_33_c i_34 w35 k31 →
      cnd (decide (i_34 < (g__n : Int)))
        (∃ x36_p : Option Addr, ∃ x36_n : Nat, ∃ x36_c : Nat, w35.cell? ((Addr.mk n3 0 none).add 2) = some (.slice x36_p x36_n x36_c) ∧ 
          ixK x36_p x36_n i_34 1 fun a37 =>
          ∃ x38 : Int, w35.cell? a37 = some (.int .i64 x38) ∧ 
          cnd (decide (x38 > (0 : Int)))
          (ixK g__p g__n i_34 2 fun a39 =>
          ∃ x40 : Int, w35.cell? (a39.add 0) = some (.int .i64 x40) ∧ 
          cnd (decide (x40 ≥ (0 : Int)))
          (ixK g__p g__n i_34 2 fun a41 =>
            ∃ x42 : Int, w35.drew.cell? (a41.add 0) = some (.int .i64 x42) ∧ 
            ixK g__p g__n i_34 2 fun a43 =>
            ∃ x44 : Int, w35.drew.cell? (a43.add 1) = some (.int .i64 x44) ∧ 
            Calls Try.prog 57 #[.int .i64 (IntKind.i64.wrap ((IntKind.i64.wrap ((2 : Int) * i_34)) + (2 : Int)))] w35.drew fun e w45 => ∃ r46 : Int, e = .returned (.int .i64 r46) ∧ 
            ∀ (n47 : Nat) (w48 : World), New (.cells #[.int .i64 r46, .int .i64 x42] 3) w45 n47 w48 → 
            Calls Try.prog 57 #[.int .i64 (IntKind.i64.wrap ((IntKind.i64.wrap ((2 : Int) * i_34)) + (2 : Int)))] w48 fun e w49 => ∃ r50 : Int, e = .returned (.int .i64 r50) ∧ 
            ∀ (n51 : Nat) (w52 : World), New (.cells #[.int .i64 r50, .int .i64 x44] 3) w49 n51 w52 → 
            Calls Try.prog 57 #[.int .i64 x42] w52 fun e w53 => ∃ r54 : Int, e = .returned (.int .i64 r54) ∧ 
            Calls Try.prog 57 #[.int .i64 x44] w53 fun e w55 => ∃ r56 : Int, e = .returned (.int .i64 r56) ∧ 
            ∀ (n57 : Nat) (w58 : World), New (.cells #[.int .i64 (IntKind.i64.wrap ((IntKind.i64.wrap ((2 : Int) * i_34)) + (2 : Int))), .int .i64 r54, .int .i64 r56] 3) w55 n57 w58 → 
            ∀ (n59 : Nat) (w60 : World), New (.cells #[.slice (some (Addr.mk n47 0 none)) 2 2, .slice (some (Addr.mk n51 0 none)) 2 2, .slice (some (Addr.mk n57 0 none)) 3 3] 24) w58 n59 w60 → 
            ∃ w61 : World, ∃ r62_p : Option Addr, ∃ r62_n : Nat, ∃ r62_c : Nat, (Builtin.append_ #[34, 34] 34 #[.slice all_33_p all_33_n all_33_c, .slice (some (Addr.mk n59 0 none)) 3 3]).run Try.prog w60 = .ok (.slice r62_p r62_n r62_c) w61 ∧ 
            ∃ k32, k32 < k31 ∧ I30 r62_p r62_n r62_c (IntKind.i64.wrap (i_34 + (1 : Int))) w61 k32)
          (∃ k32, k32 < k31 ∧ I30 all_33_p all_33_n all_33_c (IntKind.i64.wrap (i_34 + (1 : Int))) w35 k32))
          (∃ k32, k32 < k31 ∧ I30 all_33_p all_33_n all_33_c (IntKind.i64.wrap (i_34 + (1 : Int))) w35 k32))
        (∃ w63 : World, ∃ r64_p : Option Addr, ∃ r64_n : Nat, ∃ r64_c : Nat, (Builtin.append_ #[34, 34] 34 #[.slice all_33_p all_33_n all_33_c, .slice clauses__p clauses__n clauses__c]).run Try.prog w35 = .ok (.slice r64_p r64_n r64_c) w63 ∧ 
          ∃ I65 : Int → World → Nat → Prop, (∃ k66, I65 0 w63 k66) ∧
          ∀ (i_68 : Int) (w69 : World) (k66 : Nat) (_ : Fr), I65 i_68 w69 k66 →
          cnd (decide (i_68 < (r64_n : Int)))
            (∃ x70_p : Option Addr, ∃ x70_n : Nat, ∃ x70_c : Nat, w69.drew.cell? ((Addr.mk n3 0 none).add 2) = some (.slice x70_p x70_n x70_c) ∧ 
              ixK r64_p r64_n i_68 1 fun a71 =>
              ∃ x72_p : Option Addr, ∃ x72_n : Nat, ∃ x72_c : Nat, w69.drew.cell? a71 = some (.slice x72_p x72_n x72_c) ∧ 
              Calls Try.prog 58 #[.slice x70_p x70_n x70_c, .slice x72_p x72_n x72_c] w69.drew fun e w73 => ∃ r74_p : Option Addr, ∃ r74_n : Nat, ∃ r74_c : Nat, ∃ r75 : Bool, e = .returned (.tuple #[.slice r74_p r74_n r74_c, .bool r75]) ∧ 
              cnd r75
              (∃ x76_p : Option Addr, ∃ x76_n : Nat, ∃ x76_c : Nat, w73.cell? (((Addr.mk n3 0 none).add 0).add 1) = some (.slice x76_p x76_n x76_c) ∧ 
                ∀ (n77 : Nat) (w78 : World), New (.cells #[.slice r74_p r74_n r74_c] 24) w73 n77 w78 → 
                ∃ w79 : World, ∃ r80_p : Option Addr, ∃ r80_n : Nat, ∃ r80_c : Nat, (Builtin.append_ #[34, 34] 34 #[.slice x76_p x76_n x76_c, .slice (some (Addr.mk n77 0 none)) 1 1]).run Try.prog w78 = .ok (.slice r80_p r80_n r80_c) w79 ∧ 
                ∃ w81 : World, StoreAt (((Addr.mk n3 0 none).add 0).add 1) 0 [.slice r80_p r80_n r80_c] w79 w81 ∧ 
                ∃ k67, k67 < k66 ∧ I65 (IntKind.i64.wrap (i_68 + (1 : Int))) w81 k67)
              (∃ k67, k67 < k66 ∧ I65 (IntKind.i64.wrap (i_68 + (1 : Int))) w73 k67))
            (∃ x82 : Int, ∃ x83_p : Option Addr, ∃ x83_n : Nat, ∃ x83_c : Nat, ∃ x84_p : Option Addr, ∃ x84_n : Nat, ∃ x84_c : Nat, CellsAt w69 (Addr.mk n3 0 none) 0 [.int .i64 x82, .slice x83_p x83_n x83_c, .slice x84_p x84_n x84_c] ∧ 
              ∃ w85 : World, StoreAt (Addr.mk n1 0 none) 0 [.int .i64 x82, .slice x83_p x83_n x83_c, .slice x84_p x84_n x84_c] w69 w85 ∧ 
              ∃ x86 : Int, ∃ x87_p : Option Addr, ∃ x87_n : Nat, ∃ x87_c : Nat, ∃ x88_p : Option Addr, ∃ x88_n : Nat, ∃ x88_c : Nat, CellsAt w85 (Addr.mk n1 0 none) 0 [.int .i64 x86, .slice x87_p x87_n x87_c, .slice x88_p x88_n x88_c] ∧ 
              K (.agg #[.int .i64 x86, .slice x87_p x87_n x87_c, .slice x88_p x88_n x88_c]) w85)))
theorem fathomref18_Build.eq (g__p : Option Addr) (g__n : Nat) (g__c : Nat) (clauses__p : Option Addr) (clauses__n : Nat) (clauses__c : Nat) (w : World) (K : Value → World → Prop) : wpF Try.prog Try.f24 (.two .leaf (.two .leaf (.two (.two .leaf (.one (.loop [(6, 3)] .leaf))) (.two .leaf (.two (.two .leaf (.one (.loop [(8, 34), (9, 3)] .leaf))) (.two .leaf (.two (.two .leaf (.one (.loop [(13, 3)] .leaf))) .leaf))))))) [.slice g__p g__n g__c, .slice clauses__p clauses__n clauses__c] w K = fathomref18_Build.w g__p g__n g__c clauses__p clauses__n clauses__c w K := by kernel_rfl
theorem fathomref18_Build.ok : fnOk Try.prog Try.f24 2 = true := by kernel_rfl
theorem fathomref18_Build.calls {g__p : Option Addr} {g__n : Nat} {g__c : Nat} {clauses__p : Option Addr} {clauses__n : Nat} {clauses__c : Nat} {w : World} {R : Ending → World → Prop} (h : fathomref18_Build.w g__p g__n g__c clauses__p clauses__n clauses__c w fun v w' => R (.returned v) w') : Calls Try.prog 24 #[.slice g__p g__n g__c, .slice clauses__p clauses__n clauses__c] w R :=
  calls_of mixed Try.func24 fathomref18_Build.ok rfl (fun K => fathomref18_Build.eq g__p g__n g__c clauses__p clauses__n clauses__c w K) h

/-! ### fathom/fathomref01.Ints: function 25 (named slots 6) -/
def fathomref01_Ints.w (a__p : Option Addr) (a__n : Nat) (a__c : Nat) (b__p : Option Addr) (b__n : Nat) (b__c : Nat) (w : World) (K : Value → World → Prop) : Prop :=
  cnd ((a__n : Int) != (b__n : Int))
  (K (.bool false) w)
  (∃ I1 : Int → World → Nat → Prop, (∃ k2, I1 0 w k2) ∧
    ∀ (i_4 : Int) (w5 : World) (k2 : Nat) (_ : Fr), I1 i_4 w5 k2 →
    cnd (decide (i_4 < (a__n : Int)))
      (ixK a__p a__n i_4 1 fun a6 =>
        ∃ x7 : Int, w5.drew.cell? a6 = some (.int .i64 x7) ∧ 
        ixK b__p b__n i_4 1 fun a8 =>
        ∃ x9 : Int, w5.drew.cell? a8 = some (.int .i64 x9) ∧ 
        cnd (x7 != x9)
        (K (.bool false) w5.drew)
        (∃ k3, k3 < k2 ∧ I1 (IntKind.i64.wrap (i_4 + (1 : Int))) w5.drew k3))
      (K (.bool true) w5))
theorem fathomref01_Ints.eq (a__p : Option Addr) (a__n : Nat) (a__c : Nat) (b__p : Option Addr) (b__n : Nat) (b__c : Nat) (w : World) (K : Value → World → Prop) : wpF Try.prog Try.f25 (.two .leaf (.two .leaf (.two (.two .leaf (.one (.loop [(5, 3)] .leaf))) .leaf))) [.slice a__p a__n a__c, .slice b__p b__n b__c] w K = fathomref01_Ints.w a__p a__n a__c b__p b__n b__c w K := by kernel_rfl
theorem fathomref01_Ints.ok : fnOk Try.prog Try.f25 2 = true := by kernel_rfl
theorem fathomref01_Ints.calls {a__p : Option Addr} {a__n : Nat} {a__c : Nat} {b__p : Option Addr} {b__n : Nat} {b__c : Nat} {w : World} {R : Ending → World → Prop} (h : fathomref01_Ints.w a__p a__n a__c b__p b__n b__c w fun v w' => R (.returned v) w') : Calls Try.prog 25 #[.slice a__p a__n a__c, .slice b__p b__n b__c] w R :=
  calls_of mixed Try.func25 fathomref01_Ints.ok rfl (fun K => fathomref01_Ints.eq a__p a__n a__c b__p b__n b__c w K) h

/-! ### fathom/tseitin.Code: function 26 (named slots 6) -/
def tseitin_Code.w (c_0 : Int) (c_1_p : Option Addr) (c_1_n : Nat) (c_1_c : Nat) (c_2_p : Option Addr) (c_2_n : Nat) (c_2_c : Nat) (l_ : Int) (w : World) (K : Value → World → Prop) : Prop :=
  ∀ (n1 : Nat) (w2 : World), New (.cells #[.int .i64 c_0, .slice c_1_p c_1_n c_1_c, .slice c_2_p c_2_n c_2_c] 39) w n1 w2 → 
  cnd (decide (l_ < (2 : Int)))
  (K (.int .i64 0) w2)
  ((2 : Int) ≠ 0 ∧ ∃ x3_p : Option Addr, ∃ x3_n : Nat, ∃ x3_c : Nat, w2.cell? ((Addr.mk n1 0 none).add 2) = some (.slice x3_p x3_n x3_c) ∧ 
  cnd (decide ((IntKind.i64.wrap (l_.tdiv (2 : Int))) > (x3_n : Int)))
  (K (.int .i64 0) w2)
  (∃ x4_p : Option Addr, ∃ x4_n : Nat, ∃ x4_c : Nat, w2.cell? ((Addr.mk n1 0 none).add 2) = some (.slice x4_p x4_n x4_c) ∧ 
    (2 : Int) ≠ 0 ∧ ixK x4_p x4_n (IntKind.i64.wrap ((IntKind.i64.wrap (l_.tdiv (2 : Int))) - (1 : Int))) 1 fun a5 =>
    ∃ x6 : Int, w2.cell? a5 = some (.int .i64 x6) ∧ 
    (2 : Int) ≠ 0 ∧ cnd ((l_.tmod (2 : Int)) == (1 : Int))
    (K (.int .i64 (IntKind.i64.wrap (0 - x6))) w2)
    (K (.int .i64 x6) w2)))
theorem tseitin_Code.eq (c_0 : Int) (c_1_p : Option Addr) (c_1_n : Nat) (c_1_c : Nat) (c_2_p : Option Addr) (c_2_n : Nat) (c_2_c : Nat) (l_ : Int) (w : World) (K : Value → World → Prop) : wpF Try.prog Try.f26 .leaf [.agg #[.int .i64 c_0, .slice c_1_p c_1_n c_1_c, .slice c_2_p c_2_n c_2_c], .int .i64 l_] w K = tseitin_Code.w c_0 c_1_p c_1_n c_1_c c_2_p c_2_n c_2_c l_ w K := by kernel_rfl
theorem tseitin_Code.ok : fnOk Try.prog Try.f26 2 = true := by kernel_rfl
theorem tseitin_Code.calls {c_0 : Int} {c_1_p : Option Addr} {c_1_n : Nat} {c_1_c : Nat} {c_2_p : Option Addr} {c_2_n : Nat} {c_2_c : Nat} {l_ : Int} {w : World} {R : Ending → World → Prop} (h : tseitin_Code.w c_0 c_1_p c_1_n c_1_c c_2_p c_2_n c_2_c l_ w fun v w' => R (.returned v) w') : Calls Try.prog 26 #[.agg #[.int .i64 c_0, .slice c_1_p c_1_n c_1_c, .slice c_2_p c_2_n c_2_c], .int .i64 l_] w R :=
  calls_of mixed Try.func26 tseitin_Code.ok rfl (fun K => tseitin_Code.eq c_0 c_1_p c_1_n c_1_c c_2_p c_2_n c_2_c l_ w K) h

/-! ### fathom/fathomref18.Asked: function 31 (named slots 10) -/
def fathomref18_Asked.w (g__p : Option Addr) (g__n : Nat) (g__c : Nat) (clauses__p : Option Addr) (clauses__n : Nat) (clauses__c : Nat) (ins__p : Option Addr) (ins__n : Nat) (ins__c : Nat) (w : World) (K : Value → World → Prop) : Prop :=
  ∃ I1 : Int → World → Nat → Prop, (∃ k2, I1 0 w k2) ∧
  ∀ (i_4 : Int) (w5 : World) (k2 : Nat) (_ : Fr), I1 i_4 w5 k2 →
  cnd (decide (i_4 < (clauses__n : Int)))
    (∃ I6 : Bool → Int → World → Nat → Prop, (∃ k7, I6 false 0 w5 k7) ∧
      ∀ (some_9 : Bool) (k_10 : Int) (w11 : World) (k7 : Nat) (_ : Fr), I6 some_9 k_10 w11 k7 →
      ixK clauses__p clauses__n i_4 1 fun a12 =>
        ∃ x13_p : Option Addr, ∃ x13_n : Nat, ∃ x13_c : Nat, w11.cell? a12 = some (.slice x13_p x13_n x13_c) ∧ 
        cnd (decide (k_10 < (x13_n : Int)))
        (cnd some_9
          (∃ k8, k8 < k7 ∧ I6 true (IntKind.i64.wrap (k_10 + (1 : Int))) w11 k8)
          (ixK clauses__p clauses__n i_4 1 fun a14 =>
          ∃ x15_p : Option Addr, ∃ x15_n : Nat, ∃ x15_c : Nat, w11.cell? a14 = some (.slice x15_p x15_n x15_c) ∧ 
          ixK x15_p x15_n k_10 1 fun a16 =>
          ∃ x17 : Int, w11.cell? a16 = some (.int .i64 x17) ∧ 
          Calls Try.prog 36 #[.slice g__p g__n g__c, .slice ins__p ins__n ins__c, .int .i64 x17] w11 fun e w18 => ∃ r19 : Bool, e = .returned (.bool r19) ∧ 
          ∃ k8, k8 < k7 ∧ I6 r19 (IntKind.i64.wrap (k_10 + (1 : Int))) w18 k8))
        (cnd (!some_9)
          (K (.bool false) w11)
          (∃ k3, k3 < k2 ∧ I1 (IntKind.i64.wrap (i_4 + (1 : Int))) w11 k3)))
    (K (.bool true) w5)
theorem fathomref18_Asked.eq (g__p : Option Addr) (g__n : Nat) (g__c : Nat) (clauses__p : Option Addr) (clauses__n : Nat) (clauses__c : Nat) (ins__p : Option Addr) (ins__n : Nat) (ins__c : Nat) (w : World) (K : Value → World → Prop) : wpF Try.prog Try.f31 (.two .leaf (.two (.two .leaf (.one (.loop [(7, 3)] (.two .leaf (.two (.one (.two .leaf (.two (.two .leaf (.one (.loop [(8, 4), (9, 3)] .leaf))) .leaf))) .leaf))))) .leaf)) [.slice g__p g__n g__c, .slice clauses__p clauses__n clauses__c, .slice ins__p ins__n ins__c] w K = fathomref18_Asked.w g__p g__n g__c clauses__p clauses__n clauses__c ins__p ins__n ins__c w K := by kernel_rfl
theorem fathomref18_Asked.ok : fnOk Try.prog Try.f31 3 = true := by kernel_rfl
theorem fathomref18_Asked.calls {g__p : Option Addr} {g__n : Nat} {g__c : Nat} {clauses__p : Option Addr} {clauses__n : Nat} {clauses__c : Nat} {ins__p : Option Addr} {ins__n : Nat} {ins__c : Nat} {w : World} {R : Ending → World → Prop} (h : fathomref18_Asked.w g__p g__n g__c clauses__p clauses__n clauses__c ins__p ins__n ins__c w fun v w' => R (.returned v) w') : Calls Try.prog 31 #[.slice g__p g__n g__c, .slice clauses__p clauses__n clauses__c, .slice ins__p ins__n ins__c] w R :=
  calls_of mixed Try.func31 fathomref18_Asked.ok rfl (fun K => fathomref18_Asked.eq g__p g__n g__c clauses__p clauses__n clauses__c ins__p ins__n ins__c w K) h

/-! ### fathom/fathomref01.Model: function 33 (named slots 7) -/
def fathomref01_Model.w (vars_ : Int) (n_ : Int) (w : World) (K : Value → World → Prop) : Prop :=
  ∀ (n1 : Nat) (w2 : World), New (.cells #[] 3) w n1 w2 → 
  ∃ I3 : Int → Option Addr → Nat → Nat → Int → World → Nat → Prop, (∃ k4, I3 n_ (some (Addr.mk n1 0 none)) 0 0 0 w2 k4) ∧
  ∀ (n_6 : Int) (m_7_p : Option Addr) (m_7_n : Nat) (m_7_c : Nat) (i_8 : Int) (w9 : World) (k4 : Nat) (_ : Fr), I3 n_6 m_7_p m_7_n m_7_c i_8 w9 k4 →
  cnd (decide (i_8 < vars_))
    ((2 : Int) ≠ 0 ∧ cnd ((n_6.tmod (2 : Int)) == (1 : Int))
      (∀ (n10 : Nat) (w11 : World), New (.cells #[.int .i64 1] 3) w9 n10 w11 → 
        ∃ w12 : World, ∃ r13_p : Option Addr, ∃ r13_n : Nat, ∃ r13_c : Nat, (Builtin.append_ #[24, 24] 24 #[.slice m_7_p m_7_n m_7_c, .slice (some (Addr.mk n10 0 none)) 1 1]).run Try.prog w11 = .ok (.slice r13_p r13_n r13_c) w12 ∧ 
        (2 : Int) ≠ 0 ∧ ∃ k5, k5 < k4 ∧ I3 (IntKind.i64.wrap (n_6.tdiv (2 : Int))) r13_p r13_n r13_c (IntKind.i64.wrap (i_8 + (1 : Int))) w12 k5)
      (∀ (n14 : Nat) (w15 : World), New (.cells #[.int .i64 (-1)] 3) w9 n14 w15 → 
        ∃ w16 : World, ∃ r17_p : Option Addr, ∃ r17_n : Nat, ∃ r17_c : Nat, (Builtin.append_ #[24, 24] 24 #[.slice m_7_p m_7_n m_7_c, .slice (some (Addr.mk n14 0 none)) 1 1]).run Try.prog w15 = .ok (.slice r17_p r17_n r17_c) w16 ∧ 
        (2 : Int) ≠ 0 ∧ ∃ k5, k5 < k4 ∧ I3 (IntKind.i64.wrap (n_6.tdiv (2 : Int))) r17_p r17_n r17_c (IntKind.i64.wrap (i_8 + (1 : Int))) w16 k5))
    (K (.slice m_7_p m_7_n m_7_c) w9)
theorem fathomref01_Model.eq (vars_ : Int) (n_ : Int) (w : World) (K : Value → World → Prop) : wpF Try.prog Try.f33 (.two .leaf (.two .leaf (.two (.two .leaf (.one (.loop [(1, 3), (5, 24), (6, 3)] .leaf))) .leaf))) [.int .i64 vars_, .int .i64 n_] w K = fathomref01_Model.w vars_ n_ w K := by kernel_rfl
theorem fathomref01_Model.ok : fnOk Try.prog Try.f33 2 = true := by kernel_rfl
theorem fathomref01_Model.calls {vars_ : Int} {n_ : Int} {w : World} {R : Ending → World → Prop} (h : fathomref01_Model.w vars_ n_ w fun v w' => R (.returned v) w') : Calls Try.prog 33 #[.int .i64 vars_, .int .i64 n_] w R :=
  calls_of mixed Try.func33 fathomref01_Model.ok rfl (fun K => fathomref01_Model.eq vars_ n_ w K) h

/-! ### fathom/tseitin.Ins: function 34 (named slots 10) -/
def tseitin_Ins.w (g__p : Option Addr) (g__n : Nat) (g__c : Nat) (c_0 : Int) (c_1_p : Option Addr) (c_1_n : Nat) (c_1_c : Nat) (c_2_p : Option Addr) (c_2_n : Nat) (c_2_c : Nat) (m__p : Option Addr) (m__n : Nat) (m__c : Nat) (w : World) (K : Value → World → Prop) : Prop :=
  ∀ (n1 : Nat) (w2 : World), New (.cells #[.int .i64 c_0, .slice c_1_p c_1_n c_1_c, .slice c_2_p c_2_n c_2_c] 39) w n1 w2 → 
  Calls Try.prog 63 #[.slice g__p g__n g__c] w2 fun e w3 => ∃ r4 : Int, e = .returned (.int .i64 r4) ∧ 
  cnd (r4 != (0 : Int))
  (K (.slice none 0 0) w3)
  (∃ x5_p : Option Addr, ∃ x5_n : Nat, ∃ x5_c : Nat, w3.cell? ((Addr.mk n1 0 none).add 2) = some (.slice x5_p x5_n x5_c) ∧ 
  cnd ((x5_n : Int) != (g__n : Int))
  (K (.slice none 0 0) w3)
  (∃ I6 : Option Addr → Nat → Nat → Int → World → Nat → Prop, (∃ k7, I6 none 0 0 0 w3 k7) ∧
    ∀ (out_9_p : Option Addr) (out_9_n : Nat) (out_9_c : Nat) (v10 : Int) (w11 : World) (k7 : Nat) (_ : Fr), I6 out_9_p out_9_n out_9_c v10 w11 k7 →
    cnd (decide (v10 < (g__n : Int)))
      (ixK g__p g__n v10 2 fun a12 =>
        ∃ x13 : Int, ∃ x14 : Int, CellsAt w11 a12 0 [.int .i64 x13, .int .i64 x14] ∧ 
        ∀ (n15 : Nat) (w16 : World), New (.cells #[.int .i64 0, .int .i64 0] 76) w11 n15 w16 → 
        ∃ w17 : World, StoreAt (Addr.mk n15 0 none) 0 [.int .i64 x13, .int .i64 x14] w16 w17 ∧ 
        ∃ x18 : Int, ∃ x19 : Int, CellsAt w17 (Addr.mk n15 0 none) 0 [.int .i64 x18, .int .i64 x19] ∧ 
        Calls Try.prog 51 #[.agg #[.int .i64 x18, .int .i64 x19]] w17 fun e w20 => ∃ r21 : Bool, e = .returned (.bool r21) ∧ 
        cnd (!r21)
        (∃ x22_p : Option Addr, ∃ x22_n : Nat, ∃ x22_c : Nat, w20.cell? ((Addr.mk n1 0 none).add 2) = some (.slice x22_p x22_n x22_c) ∧ 
          ixK x22_p x22_n v10 1 fun a23 =>
          ∃ x24 : Int, w20.cell? a23 = some (.int .i64 x24) ∧ 
          Calls Try.prog 64 #[.slice m__p m__n m__c, .int .i64 x24] w20 fun e w25 => ∃ r26 : Int, e = .returned (.int .i64 r26) ∧ 
          ∀ (n27 : Nat) (w28 : World), New (.cells #[.bool (decide (r26 > (0 : Int)))] 4) w25 n27 w28 → 
          ∃ w29 : World, ∃ r30_p : Option Addr, ∃ r30_n : Nat, ∃ r30_c : Nat, (Builtin.append_ #[28, 28] 28 #[.slice out_9_p out_9_n out_9_c, .slice (some (Addr.mk n27 0 none)) 1 1]).run Try.prog w28 = .ok (.slice r30_p r30_n r30_c) w29 ∧ 
          ∃ k8, k8 < k7 ∧ I6 r30_p r30_n r30_c (IntKind.i64.wrap (v10 + (1 : Int))) w29 k8)
        (∃ k8, k8 < k7 ∧ I6 out_9_p out_9_n out_9_c (IntKind.i64.wrap (v10 + (1 : Int))) w20 k8))
      (K (.slice out_9_p out_9_n out_9_c) w11)))
theorem tseitin_Ins.eq (g__p : Option Addr) (g__n : Nat) (g__c : Nat) (c_0 : Int) (c_1_p : Option Addr) (c_1_n : Nat) (c_1_c : Nat) (c_2_p : Option Addr) (c_2_n : Nat) (c_2_c : Nat) (m__p : Option Addr) (m__n : Nat) (m__c : Nat) (w : World) (K : Value → World → Prop) : wpF Try.prog Try.f34 (.two .leaf (.two .leaf (.two .leaf (.two (.two .leaf (.one (.loop [(7, 28), (23, 3)] .leaf))) .leaf)))) [.slice g__p g__n g__c, .agg #[.int .i64 c_0, .slice c_1_p c_1_n c_1_c, .slice c_2_p c_2_n c_2_c], .slice m__p m__n m__c] w K = tseitin_Ins.w g__p g__n g__c c_0 c_1_p c_1_n c_1_c c_2_p c_2_n c_2_c m__p m__n m__c w K := by kernel_rfl
theorem tseitin_Ins.ok : fnOk Try.prog Try.f34 3 = true := by kernel_rfl
theorem tseitin_Ins.calls {g__p : Option Addr} {g__n : Nat} {g__c : Nat} {c_0 : Int} {c_1_p : Option Addr} {c_1_n : Nat} {c_1_c : Nat} {c_2_p : Option Addr} {c_2_n : Nat} {c_2_c : Nat} {m__p : Option Addr} {m__n : Nat} {m__c : Nat} {w : World} {R : Ending → World → Prop} (h : tseitin_Ins.w g__p g__n g__c c_0 c_1_p c_1_n c_1_c c_2_p c_2_n c_2_c m__p m__n m__c w fun v w' => R (.returned v) w') : Calls Try.prog 34 #[.slice g__p g__n g__c, .agg #[.int .i64 c_0, .slice c_1_p c_1_n c_1_c, .slice c_2_p c_2_n c_2_c], .slice m__p m__n m__c] w R :=
  calls_of mixed Try.func34 tseitin_Ins.ok rfl (fun K => tseitin_Ins.eq g__p g__n g__c c_0 c_1_p c_1_n c_1_c c_2_p c_2_n c_2_c m__p m__n m__c w K) h

/-! ### fathom/fathomref01.Value: function 35 (named slots 5) -/
def fathomref01_Value.w (m__p : Option Addr) (m__n : Nat) (m__c : Nat) (l_ : Int) (w : World) (K : Value → World → Prop) : Prop :=
  Calls Try.prog 65 #[.int .i64 l_] w fun e w1 => ∃ r2 : Bool, e = .returned (.bool r2) ∧ 
  cnd (!r2)
  (K (.int .i64 0) w1)
  (Calls Try.prog 66 #[.int .i64 l_] w1 fun e w3 => ∃ r4 : Int, e = .returned (.int .i64 r4) ∧ 
  cnd (decide (r4 > (m__n : Int)))
  (K (.int .i64 0) w3)
  (Calls Try.prog 66 #[.int .i64 l_] w3 fun e w5 => ∃ r6 : Int, e = .returned (.int .i64 r6) ∧ 
  ixK m__p m__n (IntKind.i64.wrap (r6 - (1 : Int))) 1 fun a7 =>
  ∃ x8 : Int, w5.cell? a7 = some (.int .i64 x8) ∧ 
  cnd (x8 == (0 : Int))
  (K (.int .i64 0) w5)
  (Calls Try.prog 66 #[.int .i64 l_] w5 fun e w9 => ∃ r10 : Int, e = .returned (.int .i64 r10) ∧ 
    ixK m__p m__n (IntKind.i64.wrap (r10 - (1 : Int))) 1 fun a11 =>
    ∃ x12 : Int, w9.cell? a11 = some (.int .i64 x12) ∧ 
    cnd ((decide (x12 > (0 : Int))) == (decide (l_ > (0 : Int))))
    (K (.int .i64 1) w9)
    (K (.int .i64 (-1)) w9))))
theorem fathomref01_Value.eq (m__p : Option Addr) (m__n : Nat) (m__c : Nat) (l_ : Int) (w : World) (K : Value → World → Prop) : wpF Try.prog Try.f35 .leaf [.slice m__p m__n m__c, .int .i64 l_] w K = fathomref01_Value.w m__p m__n m__c l_ w K := by kernel_rfl
theorem fathomref01_Value.ok : fnOk Try.prog Try.f35 2 = true := by kernel_rfl
theorem fathomref01_Value.calls {m__p : Option Addr} {m__n : Nat} {m__c : Nat} {l_ : Int} {w : World} {R : Ending → World → Prop} (h : fathomref01_Value.w m__p m__n m__c l_ w fun v w' => R (.returned v) w') : Calls Try.prog 35 #[.slice m__p m__n m__c, .int .i64 l_] w R :=
  calls_of mixed Try.func35 fathomref01_Value.ok rfl (fun K => fathomref01_Value.eq m__p m__n m__c l_ w K) h

/-! ### fathom/fathomref15.True: function 36 (named slots 11) -/
def fathomref15_True.w (g__p : Option Addr) (g__n : Nat) (g__c : Nat) (ins__p : Option Addr) (ins__n : Nat) (ins__c : Nat) (l_ : Int) (w : World) (K : Value → World → Prop) : Prop :=
  cnd (decide (l_ < (2 : Int)))
  (K (.bool (l_ == (1 : Int))) w)
  ((2 : Int) ≠ 0 ∧ ixK g__p g__n (IntKind.i64.wrap ((IntKind.i64.wrap (l_.tdiv (2 : Int))) - (1 : Int))) 2 fun a1 =>
    ∃ x2 : Int, ∃ x3 : Int, CellsAt w a1 0 [.int .i64 x2, .int .i64 x3] ∧ 
    ∀ (n4 : Nat) (w5 : World), New (.cells #[.int .i64 0, .int .i64 0] 76) w n4 w5 → 
    ∃ w6 : World, StoreAt (Addr.mk n4 0 none) 0 [.int .i64 x2, .int .i64 x3] w5 w6 ∧ 
    ∃ x7 : Int, w6.cell? ((Addr.mk n4 0 none).add 0) = some (.int .i64 x7) ∧ 
    cnd (decide (x7 ≥ (0 : Int)))
    (∃ x8 : Int, w6.cell? ((Addr.mk n4 0 none).add 0) = some (.int .i64 x8) ∧ 
      Calls Try.prog 36 #[.slice g__p g__n g__c, .slice ins__p ins__n ins__c, .int .i64 x8] w6 fun e w9 => ∃ r10 : Bool, e = .returned (.bool r10) ∧ 
      cnd r10
      (∃ x11 : Int, w9.cell? ((Addr.mk n4 0 none).add 1) = some (.int .i64 x11) ∧ 
      Calls Try.prog 36 #[.slice g__p g__n g__c, .slice ins__p ins__n ins__c, .int .i64 x11] w9 fun e w12 => ∃ r13 : Bool, e = .returned (.bool r13) ∧ 
      (2 : Int) ≠ 0 ∧ K (.bool (!(r13 == ((l_.tmod (2 : Int)) == (1 : Int))))) w12)
      ((2 : Int) ≠ 0 ∧ K (.bool (!(false == ((l_.tmod (2 : Int)) == (1 : Int))))) w9))
    (∃ I14 : Int → Int → World → Nat → Prop, (∃ k15, I14 0 0 w6 k15) ∧
      ∀ (k_17 : Int) (i_18 : Int) (w19 : World) (k15 : Nat) (_ : Fr), I14 k_17 i_18 w19 k15 →
      (2 : Int) ≠ 0 ∧ cnd (decide (i_18 < (IntKind.i64.wrap ((IntKind.i64.wrap (l_.tdiv (2 : Int))) - (1 : Int)))))
        (ixK g__p g__n i_18 2 fun a20 =>
          ∃ x21 : Int, w19.cell? (a20.add 0) = some (.int .i64 x21) ∧ 
          cnd (decide (x21 < (0 : Int)))
          (∃ k16, k16 < k15 ∧ I14 (IntKind.i64.wrap (k_17 + (1 : Int))) (IntKind.i64.wrap (i_18 + (1 : Int))) w19 k16)
          (∃ k16, k16 < k15 ∧ I14 k_17 (IntKind.i64.wrap (i_18 + (1 : Int))) w19 k16))
        (cnd (decide (k_17 < (ins__n : Int)))
          (ixK ins__p ins__n k_17 1 fun a22 =>
          ∃ x23 : Bool, w19.cell? a22 = some (.bool x23) ∧ 
          (2 : Int) ≠ 0 ∧ K (.bool (!(x23 == ((l_.tmod (2 : Int)) == (1 : Int))))) w19)
          ((2 : Int) ≠ 0 ∧ K (.bool (!(false == ((l_.tmod (2 : Int)) == (1 : Int))))) w19))))
theorem fathomref15_True.eq (g__p : Option Addr) (g__n : Nat) (g__c : Nat) (ins__p : Option Addr) (ins__n : Nat) (ins__c : Nat) (l_ : Int) (w : World) (K : Value → World → Prop) : wpF Try.prog Try.f36 (.two .leaf (.two .leaf (.two .leaf (.two .leaf (.two (.two .leaf (.two .leaf (.two .leaf (.two (.two .leaf (.one (.loop [(9, 3), (10, 3)] .leaf))) .leaf)))) .leaf))))) [.slice g__p g__n g__c, .slice ins__p ins__n ins__c, .int .i64 l_] w K = fathomref15_True.w g__p g__n g__c ins__p ins__n ins__c l_ w K := by kernel_rfl
theorem fathomref15_True.ok : fnOk Try.prog Try.f36 3 = true := by kernel_rfl
theorem fathomref15_True.calls {g__p : Option Addr} {g__n : Nat} {g__c : Nat} {ins__p : Option Addr} {ins__n : Nat} {ins__c : Nat} {l_ : Int} {w : World} {R : Ending → World → Prop} (h : fathomref15_True.w g__p g__n g__c ins__p ins__n ins__c l_ w fun v w' => R (.returned v) w') : Calls Try.prog 36 #[.slice g__p g__n g__c, .slice ins__p ins__n ins__c, .int .i64 l_] w R :=
  calls_of mixed Try.func36 fathomref15_True.ok rfl (fun K => fathomref15_True.eq g__p g__n g__c ins__p ins__n ins__c l_ w K) h

/-! ### fathom/fathomref01.Holds: function 37 (named slots 6) -/
def fathomref01_Holds.w (f_0 : Int) (f_1_p : Option Addr) (f_1_n : Nat) (f_1_c : Nat) (m__p : Option Addr) (m__n : Nat) (m__c : Nat) (w : World) (K : Value → World → Prop) : Prop :=
  ∀ (n1 : Nat) (w2 : World), New (.cells #[.int .i64 f_0, .slice f_1_p f_1_n f_1_c] 37) w n1 w2 → 
  ∃ I3 : Int → World → Nat → Prop, (∃ k4, I3 0 w2 k4) ∧
  ∀ (i_6 : Int) (w7 : World) (k4 : Nat) (_ : Fr), I3 i_6 w7 k4 →
  ∃ x8_p : Option Addr, ∃ x8_n : Nat, ∃ x8_c : Nat, w7.cell? ((Addr.mk n1 0 none).add 1) = some (.slice x8_p x8_n x8_c) ∧ 
    cnd (decide (i_6 < (x8_n : Int)))
    (∃ x9_p : Option Addr, ∃ x9_n : Nat, ∃ x9_c : Nat, w7.cell? ((Addr.mk n1 0 none).add 1) = some (.slice x9_p x9_n x9_c) ∧ 
      ixK x9_p x9_n i_6 1 fun a10 =>
      ∃ x11_p : Option Addr, ∃ x11_n : Nat, ∃ x11_c : Nat, w7.cell? a10 = some (.slice x11_p x11_n x11_c) ∧ 
      Calls Try.prog 67 #[.slice m__p m__n m__c, .slice x11_p x11_n x11_c] w7 fun e w12 => ∃ r13 : Int, e = .returned (.int .i64 r13) ∧ 
      cnd (r13 != (1 : Int))
      (K (.bool false) w12)
      (∃ k5, k5 < k4 ∧ I3 (IntKind.i64.wrap (i_6 + (1 : Int))) w12 k5))
    (K (.bool true) w7)
theorem fathomref01_Holds.eq (f_0 : Int) (f_1_p : Option Addr) (f_1_n : Nat) (f_1_c : Nat) (m__p : Option Addr) (m__n : Nat) (m__c : Nat) (w : World) (K : Value → World → Prop) : wpF Try.prog Try.f37 (.two .leaf (.two (.two .leaf (.one (.loop [(5, 3)] .leaf))) .leaf)) [.agg #[.int .i64 f_0, .slice f_1_p f_1_n f_1_c], .slice m__p m__n m__c] w K = fathomref01_Holds.w f_0 f_1_p f_1_n f_1_c m__p m__n m__c w K := by kernel_rfl
theorem fathomref01_Holds.ok : fnOk Try.prog Try.f37 2 = true := by kernel_rfl
theorem fathomref01_Holds.calls {f_0 : Int} {f_1_p : Option Addr} {f_1_n : Nat} {f_1_c : Nat} {m__p : Option Addr} {m__n : Nat} {m__c : Nat} {w : World} {R : Ending → World → Prop} (h : fathomref01_Holds.w f_0 f_1_p f_1_n f_1_c m__p m__n m__c w fun v w' => R (.returned v) w') : Calls Try.prog 37 #[.agg #[.int .i64 f_0, .slice f_1_p f_1_n f_1_c], .slice m__p m__n m__c] w R :=
  calls_of mixed Try.func37 fathomref01_Holds.ok rfl (fun K => fathomref01_Holds.eq f_0 f_1_p f_1_n f_1_c m__p m__n m__c w K) h

/-! ### fathom/fathomref15.May: function 38 (named slots 5) -/
def fathomref15_May.w (g__p : Option Addr) (g__n : Nat) (g__c : Nat) (w : World) (K : Value → World → Prop) : Prop :=
  ∃ I1 : Int → World → Nat → Prop, (∃ k2, I1 0 w k2) ∧
  ∀ (i_4 : Int) (w5 : World) (k2 : Nat) (_ : Fr), I1 i_4 w5 k2 →
  cnd (decide (i_4 < (g__n : Int)))
    (ixK g__p g__n i_4 2 fun a6 =>
      ∃ x7 : Int, w5.cell? (a6.add 0) = some (.int .i64 x7) ∧ 
      cnd (x7 == (-1))
      (ixK g__p g__n i_4 2 fun a8 =>
      ∃ x9 : Int, w5.cell? (a8.add 1) = some (.int .i64 x9) ∧ 
      cnd (!(x9 == (-1)))
      (ixK g__p g__n i_4 2 fun a10 =>
      ∃ x11 : Int, w5.cell? (a10.add 0) = some (.int .i64 x11) ∧ 
      cnd (decide (x11 < (0 : Int)))
      (K (.bool false) w5)
      (ixK g__p g__n i_4 2 fun a12 =>
      ∃ x13 : Int, w5.cell? (a12.add 1) = some (.int .i64 x13) ∧ 
      cnd (decide (x13 < (0 : Int)))
      (K (.bool false) w5)
      (ixK g__p g__n i_4 2 fun a14 =>
      ∃ x15 : Int, w5.cell? (a14.add 0) = some (.int .i64 x15) ∧ 
      cnd (decide (x15 > (IntKind.i64.wrap ((IntKind.i64.wrap ((2 : Int) * i_4)) + (1 : Int)))))
      (K (.bool false) w5)
      (ixK g__p g__n i_4 2 fun a16 =>
      ∃ x17 : Int, w5.cell? (a16.add 1) = some (.int .i64 x17) ∧ 
      cnd (decide (x17 > (IntKind.i64.wrap ((IntKind.i64.wrap ((2 : Int) * i_4)) + (1 : Int)))))
      (K (.bool false) w5)
      (∃ k3, k3 < k2 ∧ I1 (IntKind.i64.wrap (i_4 + (1 : Int))) w5 k3)))))
      (∃ k3, k3 < k2 ∧ I1 (IntKind.i64.wrap (i_4 + (1 : Int))) w5 k3))
      (ixK g__p g__n i_4 2 fun a18 =>
      ∃ x19 : Int, w5.cell? (a18.add 0) = some (.int .i64 x19) ∧ 
      cnd (decide (x19 < (0 : Int)))
      (K (.bool false) w5)
      (ixK g__p g__n i_4 2 fun a20 =>
      ∃ x21 : Int, w5.cell? (a20.add 1) = some (.int .i64 x21) ∧ 
      cnd (decide (x21 < (0 : Int)))
      (K (.bool false) w5)
      (ixK g__p g__n i_4 2 fun a22 =>
      ∃ x23 : Int, w5.cell? (a22.add 0) = some (.int .i64 x23) ∧ 
      cnd (decide (x23 > (IntKind.i64.wrap ((IntKind.i64.wrap ((2 : Int) * i_4)) + (1 : Int)))))
      (K (.bool false) w5)
      (ixK g__p g__n i_4 2 fun a24 =>
      ∃ x25 : Int, w5.cell? (a24.add 1) = some (.int .i64 x25) ∧ 
      cnd (decide (x25 > (IntKind.i64.wrap ((IntKind.i64.wrap ((2 : Int) * i_4)) + (1 : Int)))))
      (K (.bool false) w5)
      (∃ k3, k3 < k2 ∧ I1 (IntKind.i64.wrap (i_4 + (1 : Int))) w5 k3))))))
    (K (.bool (decide ((g__n : Int) ≤ (1048576 : Int)))) w5)
theorem fathomref15_May.eq (g__p : Option Addr) (g__n : Nat) (g__c : Nat) (w : World) (K : Value → World → Prop) : wpF Try.prog Try.f38 (.two .leaf (.two (.two .leaf (.one (.loop [(3, 3)] .leaf))) .leaf)) [.slice g__p g__n g__c] w K = fathomref15_May.w g__p g__n g__c w K := by kernel_rfl
theorem fathomref15_May.ok : fnOk Try.prog Try.f38 1 = true := by kernel_rfl
theorem fathomref15_May.calls {g__p : Option Addr} {g__n : Nat} {g__c : Nat} {w : World} {R : Ending → World → Prop} (h : fathomref15_May.w g__p g__n g__c w fun v w' => R (.returned v) w') : Calls Try.prog 38 #[.slice g__p g__n g__c] w R :=
  calls_of mixed Try.func38 fathomref15_May.ok rfl (fun K => fathomref15_May.eq g__p g__n g__c w K) h

/-! ### fathom/tseitin.Asked: function 39 (named slots 10) -/
def tseitin_Asked.w (g__p : Option Addr) (g__n : Nat) (g__c : Nat) (clauses__p : Option Addr) (clauses__n : Nat) (clauses__c : Nat) (ins__p : Option Addr) (ins__n : Nat) (ins__c : Nat) (w : World) (K : Value → World → Prop) : Prop :=
  Calls Try.prog 63 #[.slice g__p g__n g__c] w fun e w1 => ∃ r2 : Int, e = .returned (.int .i64 r2) ∧ 
  cnd (r2 != (0 : Int))
  (K (.bool false) w1)
  (Calls Try.prog 45 #[.slice g__p g__n g__c, .slice ins__p ins__n ins__c] w1 fun e w3 => ∃ r4_p : Option Addr, ∃ r4_n : Nat, ∃ r4_c : Nat, e = .returned (.slice r4_p r4_n r4_c) ∧ 
    ∀ (n5 : Nat) (w6 : World), New (.cells #[.slice none 0 0] 28) w3 n5 w6 → 
    ∃ w7 : World, StoreAt (Addr.mk n5 0 none) 0 [.slice r4_p r4_n r4_c] w6 w7 ∧ 
    ∃ I8 : Int → World → Nat → Prop, (∃ k9, I8 0 w7 k9) ∧
    ∀ (v11 : Int) (w12 : World) (k9 : Nat) (_ : Fr), I8 v11 w12 k9 →
    cnd (decide (v11 < (clauses__n : Int)))
      (ixK clauses__p clauses__n v11 1 fun a13 =>
        ∃ x14_p : Option Addr, ∃ x14_n : Nat, ∃ x14_c : Nat, w12.cell? a13 = some (.slice x14_p x14_n x14_c) ∧ 
        Calls Try.prog 68 #[.slice x14_p x14_n x14_c, .func (.func 69) #[] #[.pointer (some (Addr.mk n5 0 none))]] w12 fun e w15 => ∃ r16 : Bool, e = .returned (.bool r16) ∧ 
        cnd (!r16)
        (K (.bool false) w15)
        (∃ k10, k10 < k9 ∧ I8 (IntKind.i64.wrap (v11 + (1 : Int))) w15 k10))
      (K (.bool true) w12))
theorem tseitin_Asked.eq (g__p : Option Addr) (g__n : Nat) (g__c : Nat) (clauses__p : Option Addr) (clauses__n : Nat) (clauses__c : Nat) (ins__p : Option Addr) (ins__n : Nat) (ins__c : Nat) (w : World) (K : Value → World → Prop) : wpF Try.prog Try.f39 (.two .leaf (.two .leaf (.two .leaf (.two (.two .leaf (.one (.loop [(18, 3)] .leaf))) .leaf)))) [.slice g__p g__n g__c, .slice clauses__p clauses__n clauses__c, .slice ins__p ins__n ins__c] w K = tseitin_Asked.w g__p g__n g__c clauses__p clauses__n clauses__c ins__p ins__n ins__c w K := by kernel_rfl
theorem tseitin_Asked.ok : fnOk Try.prog Try.f39 3 = true := by kernel_rfl
theorem tseitin_Asked.calls {g__p : Option Addr} {g__n : Nat} {g__c : Nat} {clauses__p : Option Addr} {clauses__n : Nat} {clauses__c : Nat} {ins__p : Option Addr} {ins__n : Nat} {ins__c : Nat} {w : World} {R : Ending → World → Prop} (h : tseitin_Asked.w g__p g__n g__c clauses__p clauses__n clauses__c ins__p ins__n ins__c w fun v w' => R (.returned v) w') : Calls Try.prog 39 #[.slice g__p g__n g__c, .slice clauses__p clauses__n clauses__c, .slice ins__p ins__n ins__c] w R :=
  calls_of mixed Try.func39 tseitin_Asked.ok rfl (fun K => tseitin_Asked.eq g__p g__n g__c clauses__p clauses__n clauses__c ins__p ins__n ins__c w K) h

/-! ### fathom/fathomref18.Ins: function 40 (named slots 9) -/
def fathomref18_Ins.w (g__p : Option Addr) (g__n : Nat) (g__c : Nat) (vars__p : Option Addr) (vars__n : Nat) (vars__c : Nat) (m__p : Option Addr) (m__n : Nat) (m__c : Nat) (w : World) (K : Value → World → Prop) : Prop :=
  ∀ (n1 : Nat) (w2 : World), New (.cells #[] 4) w n1 w2 → 
  ∃ I3 : Option Addr → Nat → Nat → Int → World → Nat → Prop, (∃ k4, I3 (some (Addr.mk n1 0 none)) 0 0 0 w2 k4) ∧
  ∀ (out_6_p : Option Addr) (out_6_n : Nat) (out_6_c : Nat) (i_7 : Int) (w8 : World) (k4 : Nat) (_ : Fr), I3 out_6_p out_6_n out_6_c i_7 w8 k4 →
  cnd (decide (i_7 < (g__n : Int)))
    (ixK g__p g__n i_7 2 fun a9 =>
      ∃ x10 : Int, w8.cell? (a9.add 0) = some (.int .i64 x10) ∧ 
      cnd (decide (x10 < (0 : Int)))
      (ixK vars__p vars__n i_7 1 fun a11 =>
        ∃ x12 : Int, w8.cell? a11 = some (.int .i64 x12) ∧ 
        Calls Try.prog 35 #[.slice m__p m__n m__c, .int .i64 x12] w8 fun e w13 => ∃ r14 : Int, e = .returned (.int .i64 r14) ∧ 
        ∀ (n15 : Nat) (w16 : World), New (.cells #[.bool (r14 == (1 : Int))] 4) w13 n15 w16 → 
        ∃ w17 : World, ∃ r18_p : Option Addr, ∃ r18_n : Nat, ∃ r18_c : Nat, (Builtin.append_ #[28, 28] 28 #[.slice out_6_p out_6_n out_6_c, .slice (some (Addr.mk n15 0 none)) 1 1]).run Try.prog w16 = .ok (.slice r18_p r18_n r18_c) w17 ∧ 
        ∃ k5, k5 < k4 ∧ I3 r18_p r18_n r18_c (IntKind.i64.wrap (i_7 + (1 : Int))) w17 k5)
      (∃ k5, k5 < k4 ∧ I3 out_6_p out_6_n out_6_c (IntKind.i64.wrap (i_7 + (1 : Int))) w8 k5))
    (K (.slice out_6_p out_6_n out_6_c) w8)
theorem fathomref18_Ins.eq (g__p : Option Addr) (g__n : Nat) (g__c : Nat) (vars__p : Option Addr) (vars__n : Nat) (vars__c : Nat) (m__p : Option Addr) (m__n : Nat) (m__c : Nat) (w : World) (K : Value → World → Prop) : wpF Try.prog Try.f40 (.two .leaf (.two .leaf (.two (.two .leaf (.one (.loop [(7, 28), (8, 3)] .leaf))) .leaf))) [.slice g__p g__n g__c, .slice vars__p vars__n vars__c, .slice m__p m__n m__c] w K = fathomref18_Ins.w g__p g__n g__c vars__p vars__n vars__c m__p m__n m__c w K := by kernel_rfl
theorem fathomref18_Ins.ok : fnOk Try.prog Try.f40 3 = true := by kernel_rfl
theorem fathomref18_Ins.calls {g__p : Option Addr} {g__n : Nat} {g__c : Nat} {vars__p : Option Addr} {vars__n : Nat} {vars__c : Nat} {m__p : Option Addr} {m__n : Nat} {m__c : Nat} {w : World} {R : Ending → World → Prop} (h : fathomref18_Ins.w g__p g__n g__c vars__p vars__n vars__c m__p m__n m__c w fun v w' => R (.returned v) w') : Calls Try.prog 40 #[.slice g__p g__n g__c, .slice vars__p vars__n vars__c, .slice m__p m__n m__c] w R :=
  calls_of mixed Try.func40 fathomref18_Ins.ok rfl (fun K => fathomref18_Ins.eq g__p g__n g__c vars__p vars__n vars__c m__p m__n m__c w K) h

/-! ### fathom/aig.Eval: function 45 (named slots 9) -/
def aig_Eval.w (g__p : Option Addr) (g__n : Nat) (g__c : Nat) (ins__p : Option Addr) (ins__n : Nat) (ins__c : Nat) (w : World) (K : Value → World → Prop) : Prop :=
  Calls Try.prog 63 #[.slice g__p g__n g__c] w fun e w1 => ∃ r2 : Int, e = .returned (.int .i64 r2) ∧ 
  cnd (r2 != (0 : Int))
  (K (.slice none 0 0) w1)
  (∃ I3 : Option Addr → Nat → Nat → Int → Int → World → Nat → Prop, (∃ k4, I3 none 0 0 0 0 w1 k4) ∧
    ∀ (v_6_p : Option Addr) (v_6_n : Nat) (v_6_c : Nat) (k_7 : Int) (v8 : Int) (w9 : World) (k4 : Nat) (_ : Fr), I3 v_6_p v_6_n v_6_c k_7 v8 w9 k4 →
    cnd (decide (v8 < (g__n : Int)))
      (ixK g__p g__n v8 2 fun a10 =>
        ∃ x11 : Int, ∃ x12 : Int, CellsAt w9 a10 0 [.int .i64 x11, .int .i64 x12] ∧ 
        ∀ (n13 : Nat) (w14 : World), New (.cells #[.int .i64 0, .int .i64 0] 76) w9 n13 w14 → 
        ∃ w15 : World, StoreAt (Addr.mk n13 0 none) 0 [.int .i64 x11, .int .i64 x12] w14 w15 ∧ 
        (∃ x16 : Int, ∃ x17 : Int, CellsAt w15.drew (Addr.mk n13 0 none) 0 [.int .i64 x16, .int .i64 x17] ∧ 
        Calls Try.prog 72 #[] w15.drew fun e w18 => ∃ r19 : Int, ∃ r20 : Int, e = .returned (.agg #[.int .i64 r19, .int .i64 r20]) ∧ 
        ∃ w21 : World, ∃ r22 : Bool, (do eqGuard .eql 76 (.tmp 18) (.tmp 19) (.agg #[.int .i64 x16, .int .i64 x17]) (.agg #[.int .i64 r19, .int .i64 r20]); binOp .eql 76 (.agg #[.int .i64 x16, .int .i64 x17]) (.agg #[.int .i64 r19, .int .i64 r20])).run Try.prog w18 = .ok (.bool r22) w21 ∧ 
        cnd r22
        (cnd (decide (k_7 < (ins__n : Int)))
          (ixK ins__p ins__n k_7 1 fun a23 =>
          ∃ x24 : Bool, w21.cell? a23 = some (.bool x24) ∧ 
          ∀ (n25 : Nat) (w26 : World), New (.cells #[.bool x24] 4) w21 n25 w26 → 
          ∃ w27 : World, ∃ r28_p : Option Addr, ∃ r28_n : Nat, ∃ r28_c : Nat, (Builtin.append_ #[28, 28] 28 #[.slice v_6_p v_6_n v_6_c, .slice (some (Addr.mk n25 0 none)) 1 1]).run Try.prog w26 = .ok (.slice r28_p r28_n r28_c) w27 ∧ 
          ∃ k5, k5 < k4 ∧ I3 r28_p r28_n r28_c (IntKind.i64.wrap (k_7 + (1 : Int))) (IntKind.i64.wrap (v8 + (1 : Int))) w27 k5)
          (∀ (n29 : Nat) (w30 : World), New (.cells #[.bool false] 4) w21 n29 w30 → 
          ∃ w31 : World, ∃ r32_p : Option Addr, ∃ r32_n : Nat, ∃ r32_c : Nat, (Builtin.append_ #[28, 28] 28 #[.slice v_6_p v_6_n v_6_c, .slice (some (Addr.mk n29 0 none)) 1 1]).run Try.prog w30 = .ok (.slice r32_p r32_n r32_c) w31 ∧ 
          ∃ k5, k5 < k4 ∧ I3 r32_p r32_n r32_c (IntKind.i64.wrap (k_7 + (1 : Int))) (IntKind.i64.wrap (v8 + (1 : Int))) w31 k5))
        (∃ x33 : Int, w21.cell? ((Addr.mk n13 0 none).add 0) = some (.int .i64 x33) ∧ 
          Calls Try.prog 70 #[.slice v_6_p v_6_n v_6_c, .int .i64 x33] w21 fun e w34 => ∃ r35 : Bool, e = .returned (.bool r35) ∧ 
          cnd r35
          (∃ x36 : Int, w34.cell? ((Addr.mk n13 0 none).add 1) = some (.int .i64 x36) ∧ 
          Calls Try.prog 70 #[.slice v_6_p v_6_n v_6_c, .int .i64 x36] w34 fun e w37 => ∃ r38 : Bool, e = .returned (.bool r38) ∧ 
          ∀ (n39 : Nat) (w40 : World), New (.cells #[.bool r38] 4) w37 n39 w40 → 
          ∃ w41 : World, ∃ r42_p : Option Addr, ∃ r42_n : Nat, ∃ r42_c : Nat, (Builtin.append_ #[28, 28] 28 #[.slice v_6_p v_6_n v_6_c, .slice (some (Addr.mk n39 0 none)) 1 1]).run Try.prog w40 = .ok (.slice r42_p r42_n r42_c) w41 ∧ 
          ∃ k5, k5 < k4 ∧ I3 r42_p r42_n r42_c k_7 (IntKind.i64.wrap (v8 + (1 : Int))) w41 k5)
          (∀ (n43 : Nat) (w44 : World), New (.cells #[.bool false] 4) w34 n43 w44 → 
          ∃ w45 : World, ∃ r46_p : Option Addr, ∃ r46_n : Nat, ∃ r46_c : Nat, (Builtin.append_ #[28, 28] 28 #[.slice v_6_p v_6_n v_6_c, .slice (some (Addr.mk n43 0 none)) 1 1]).run Try.prog w44 = .ok (.slice r46_p r46_n r46_c) w45 ∧ 
          ∃ k5, k5 < k4 ∧ I3 r46_p r46_n r46_c k_7 (IntKind.i64.wrap (v8 + (1 : Int))) w45 k5))) ∧
      (Calls Try.prog 72 #[] w15.drew fun e w47 => ∃ r48 : Int, ∃ r49 : Int, e = .returned (.agg #[.int .i64 r48, .int .i64 r49]) ∧ 
        ∃ x50 : Int, ∃ x51 : Int, CellsAt w47 (Addr.mk n13 0 none) 0 [.int .i64 x50, .int .i64 x51] ∧ 
        ∃ w52 : World, ∃ r53 : Bool, (do eqGuard .eql 76 (.tmp 18) (.tmp 19) (.agg #[.int .i64 x50, .int .i64 x51]) (.agg #[.int .i64 r48, .int .i64 r49]); binOp .eql 76 (.agg #[.int .i64 x50, .int .i64 x51]) (.agg #[.int .i64 r48, .int .i64 r49])).run Try.prog w47 = .ok (.bool r53) w52 ∧ 
        cnd r53
        (cnd (decide (k_7 < (ins__n : Int)))
          (ixK ins__p ins__n k_7 1 fun a54 =>
          ∃ x55 : Bool, w52.cell? a54 = some (.bool x55) ∧ 
          ∀ (n56 : Nat) (w57 : World), New (.cells #[.bool x55] 4) w52 n56 w57 → 
          ∃ w58 : World, ∃ r59_p : Option Addr, ∃ r59_n : Nat, ∃ r59_c : Nat, (Builtin.append_ #[28, 28] 28 #[.slice v_6_p v_6_n v_6_c, .slice (some (Addr.mk n56 0 none)) 1 1]).run Try.prog w57 = .ok (.slice r59_p r59_n r59_c) w58 ∧ 
          ∃ k5, k5 < k4 ∧ I3 r59_p r59_n r59_c (IntKind.i64.wrap (k_7 + (1 : Int))) (IntKind.i64.wrap (v8 + (1 : Int))) w58 k5)
          (∀ (n60 : Nat) (w61 : World), New (.cells #[.bool false] 4) w52 n60 w61 → 
          ∃ w62 : World, ∃ r63_p : Option Addr, ∃ r63_n : Nat, ∃ r63_c : Nat, (Builtin.append_ #[28, 28] 28 #[.slice v_6_p v_6_n v_6_c, .slice (some (Addr.mk n60 0 none)) 1 1]).run Try.prog w61 = .ok (.slice r63_p r63_n r63_c) w62 ∧ 
          ∃ k5, k5 < k4 ∧ I3 r63_p r63_n r63_c (IntKind.i64.wrap (k_7 + (1 : Int))) (IntKind.i64.wrap (v8 + (1 : Int))) w62 k5))
        (∃ x64 : Int, w52.cell? ((Addr.mk n13 0 none).add 0) = some (.int .i64 x64) ∧ 
          Calls Try.prog 70 #[.slice v_6_p v_6_n v_6_c, .int .i64 x64] w52 fun e w65 => ∃ r66 : Bool, e = .returned (.bool r66) ∧ 
          cnd r66
          (∃ x67 : Int, w65.cell? ((Addr.mk n13 0 none).add 1) = some (.int .i64 x67) ∧ 
          Calls Try.prog 70 #[.slice v_6_p v_6_n v_6_c, .int .i64 x67] w65 fun e w68 => ∃ r69 : Bool, e = .returned (.bool r69) ∧ 
          ∀ (n70 : Nat) (w71 : World), New (.cells #[.bool r69] 4) w68 n70 w71 → 
          ∃ w72 : World, ∃ r73_p : Option Addr, ∃ r73_n : Nat, ∃ r73_c : Nat, (Builtin.append_ #[28, 28] 28 #[.slice v_6_p v_6_n v_6_c, .slice (some (Addr.mk n70 0 none)) 1 1]).run Try.prog w71 = .ok (.slice r73_p r73_n r73_c) w72 ∧ 
          ∃ k5, k5 < k4 ∧ I3 r73_p r73_n r73_c k_7 (IntKind.i64.wrap (v8 + (1 : Int))) w72 k5)
          (∀ (n74 : Nat) (w75 : World), New (.cells #[.bool false] 4) w65 n74 w75 → 
          ∃ w76 : World, ∃ r77_p : Option Addr, ∃ r77_n : Nat, ∃ r77_c : Nat, (Builtin.append_ #[28, 28] 28 #[.slice v_6_p v_6_n v_6_c, .slice (some (Addr.mk n74 0 none)) 1 1]).run Try.prog w75 = .ok (.slice r77_p r77_n r77_c) w76 ∧ 
          ∃ k5, k5 < k4 ∧ I3 r77_p r77_n r77_c k_7 (IntKind.i64.wrap (v8 + (1 : Int))) w76 k5))))
      (K (.slice v_6_p v_6_n v_6_c) w9))
theorem aig_Eval.eq (g__p : Option Addr) (g__n : Nat) (g__c : Nat) (ins__p : Option Addr) (ins__n : Nat) (ins__c : Nat) (w : World) (K : Value → World → Prop) : wpF Try.prog Try.f45 (.two .leaf (.two .leaf (.two .leaf (.two .leaf (.two (.two .leaf (.one (.loop [(5, 28), (6, 3), (14, 3)] .leaf))) .leaf))))) [.slice g__p g__n g__c, .slice ins__p ins__n ins__c] w K = aig_Eval.w g__p g__n g__c ins__p ins__n ins__c w K := by kernel_rfl
theorem aig_Eval.ok : fnOk Try.prog Try.f45 2 = true := by kernel_rfl
theorem aig_Eval.calls {g__p : Option Addr} {g__n : Nat} {g__c : Nat} {ins__p : Option Addr} {ins__n : Nat} {ins__c : Nat} {w : World} {R : Ending → World → Prop} (h : aig_Eval.w g__p g__n g__c ins__p ins__n ins__c w fun v w' => R (.returned v) w') : Calls Try.prog 45 #[.slice g__p g__n g__c, .slice ins__p ins__n ins__c] w R :=
  calls_of mixed Try.func45 aig_Eval.ok rfl (fun K => aig_Eval.eq g__p g__n g__c ins__p ins__n ins__c w K) h

/-! ### fathom/tseitin.may: function 49 (named slots 7) -/
def tseitin_may.w (g__p : Option Addr) (g__n : Nat) (g__c : Nat) (clauses__p : Option Addr) (clauses__n : Nat) (clauses__c : Nat) (w : World) (K : Value → World → Prop) : Prop :=
  ∀ (n1 : Nat) (w2 : World), New (.cells #[.slice g__p g__n g__c] 33) w n1 w2 → 
  ∃ x3_p : Option Addr, ∃ x3_n : Nat, ∃ x3_c : Nat, w2.cell? (Addr.mk n1 0 none) = some (.slice x3_p x3_n x3_c) ∧ 
  Calls Try.prog 63 #[.slice x3_p x3_n x3_c] w2 fun e w4 => ∃ r5 : Int, e = .returned (.int .i64 r5) ∧ 
  cnd (r5 != (0 : Int))
  (K (.bool false) w4)
  (∃ I6 : Int → World → Nat → Prop, (∃ k7, I6 0 w4 k7) ∧
    ∀ (v9 : Int) (w10 : World) (k7 : Nat) (_ : Fr), I6 v9 w10 k7 →
    cnd (decide (v9 < (clauses__n : Int)))
      (ixK clauses__p clauses__n v9 1 fun a11 =>
        ∃ x12_p : Option Addr, ∃ x12_n : Nat, ∃ x12_c : Nat, w10.cell? a11 = some (.slice x12_p x12_n x12_c) ∧ 
        cnd (decide ((x12_n : Int) > (4096 : Int)))
        (K (.bool false) w10)
        (Calls Try.prog 68 #[.slice x12_p x12_n x12_c, .func (.func 76) #[] #[.pointer (some (Addr.mk n1 0 none))]] w10 fun e w13 => ∃ r14 : Bool, e = .returned (.bool r14) ∧ 
        cnd r14
        (K (.bool false) w13)
        (∃ k8, k8 < k7 ∧ I6 (IntKind.i64.wrap (v9 + (1 : Int))) w13 k8)))
      (K (.bool true) w10))
theorem tseitin_may.eq (g__p : Option Addr) (g__n : Nat) (g__c : Nat) (clauses__p : Option Addr) (clauses__n : Nat) (clauses__c : Nat) (w : World) (K : Value → World → Prop) : wpF Try.prog Try.f49 (.two .leaf (.two .leaf (.two (.two .leaf (.one (.loop [(12, 3)] .leaf))) .leaf))) [.slice g__p g__n g__c, .slice clauses__p clauses__n clauses__c] w K = tseitin_may.w g__p g__n g__c clauses__p clauses__n clauses__c w K := by kernel_rfl
theorem tseitin_may.ok : fnOk Try.prog Try.f49 2 = true := by kernel_rfl
theorem tseitin_may.calls {g__p : Option Addr} {g__n : Nat} {g__c : Nat} {clauses__p : Option Addr} {clauses__n : Nat} {clauses__c : Nat} {w : World} {R : Ending → World → Prop} (h : tseitin_may.w g__p g__n g__c clauses__p clauses__n clauses__c w fun v w' => R (.returned v) w') : Calls Try.prog 49 #[.slice g__p g__n g__c, .slice clauses__p clauses__n clauses__c] w R :=
  calls_of mixed Try.func49 tseitin_may.ok rfl (fun K => tseitin_may.eq g__p g__n g__c clauses__p clauses__n clauses__c w K) h

/-! ### fathom/tseitin.cone: function 50 (named slots 12) -/
def tseitin_cone.w (g__p : Option Addr) (g__n : Nat) (g__c : Nat) (clauses__p : Option Addr) (clauses__n : Nat) (clauses__c : Nat) (w : World) (K : Value → World → Prop) : Prop :=
  ∃ w1 : World, ∃ r2_p : Option Addr, ∃ r2_n : Nat, ∃ r2_c : Nat, (Instr.makeSlice 28 (.int .i64 (IntKind.i64.wrap ((g__n : Int) + (1 : Int)))) (.int .i64 (IntKind.i64.wrap ((g__n : Int) + (1 : Int))))).run Try.prog w = .ok (.slice r2_p r2_n r2_c) w1 ∧ 
  ∃ I3 : Int → World → Nat → Prop, (∃ k4, I3 0 w1 k4) ∧
  ∀ (v6 : Int) (w7 : World) (k4 : Nat) (_ : Fr), I3 v6 w7 k4 →
  cnd (decide (v6 < (clauses__n : Int)))
    (ixK clauses__p clauses__n v6 1 fun a8 =>
      ∃ x9_p : Option Addr, ∃ x9_n : Nat, ∃ x9_c : Nat, w7.cell? a8 = some (.slice x9_p x9_n x9_c) ∧ 
      ∃ I10 : Int → World → Nat → Prop, (∃ k11, I10 0 w7 k11) ∧
      ∀ (v13 : Int) (w14 : World) (k11 : Nat) (_ : Fr), I10 v13 w14 k11 →
      cnd (decide (v13 < (x9_n : Int)))
        (ixK x9_p x9_n v13 1 fun a15 =>
          ∃ x16 : Int, w14.cell? a15 = some (.int .i64 x16) ∧ 
          (2 : Int) ≠ 0 ∧ ixK r2_p r2_n (IntKind.i64.wrap (x16.tdiv (2 : Int))) 1 fun a17 =>
          ∃ w18 : World, StoreAt a17 0 [.bool true] w14 w18 ∧ 
          ∃ k12, k12 < k11 ∧ I10 (IntKind.i64.wrap (v13 + (1 : Int))) w18 k12)
        (∃ k5, k5 < k4 ∧ I3 (IntKind.i64.wrap (v6 + (1 : Int))) w14 k5))
    (∃ I19 : Int → World → Nat → Prop, (∃ k20, I19 (g__n : Int) w7 k20) ∧
      ∀ (i_22 : Int) (w23 : World) (k20 : Nat) (_ : Fr), I19 i_22 w23 k20 →
      cnd (decide (i_22 ≥ (1 : Int)))
        (ixK g__p g__n (IntKind.i64.wrap (i_22 - (1 : Int))) 2 fun a24 =>
          ∃ x25 : Int, ∃ x26 : Int, CellsAt w23 a24 0 [.int .i64 x25, .int .i64 x26] ∧ 
          ∀ (n27 : Nat) (w28 : World), New (.cells #[.int .i64 0, .int .i64 0] 76) w23 n27 w28 → 
          ∃ w29 : World, StoreAt (Addr.mk n27 0 none) 0 [.int .i64 x25, .int .i64 x26] w28 w29 ∧ 
          ixK r2_p r2_n i_22 1 fun a30 =>
          ∃ x31 : Bool, w29.cell? a30 = some (.bool x31) ∧ 
          cnd x31
          (∃ x32 : Int, ∃ x33 : Int, CellsAt w29 (Addr.mk n27 0 none) 0 [.int .i64 x32, .int .i64 x33] ∧ 
          Calls Try.prog 51 #[.agg #[.int .i64 x32, .int .i64 x33]] w29 fun e w34 => ∃ r35 : Bool, e = .returned (.bool r35) ∧ 
          cnd r35
          (∃ x36 : Int, w34.drew.cell? ((Addr.mk n27 0 none).add 0) = some (.int .i64 x36) ∧ 
            (2 : Int) ≠ 0 ∧ ixK r2_p r2_n (IntKind.i64.wrap (x36.tdiv (2 : Int))) 1 fun a37 =>
            (∃ x38 : Int, w34.drew.cell? ((Addr.mk n27 0 none).add 1) = some (.int .i64 x38) ∧ 
            (2 : Int) ≠ 0 ∧ ∃ w39 : World, StoreAt a37 0 [.bool true] w34.drew w39 ∧ 
            ixK r2_p r2_n (IntKind.i64.wrap (x38.tdiv (2 : Int))) 1 fun a40 =>
            ∃ w41 : World, StoreAt a40 0 [.bool true] w39 w41 ∧ 
            ∃ k21, k21 < k20 ∧ I19 (IntKind.i64.wrap (i_22 - (1 : Int))) w41 k21) ∧
          (∃ w42 : World, StoreAt a37 0 [.bool true] w34.drew w42 ∧ 
            ∃ x43 : Int, w42.cell? ((Addr.mk n27 0 none).add 1) = some (.int .i64 x43) ∧ 
            (2 : Int) ≠ 0 ∧ ixK r2_p r2_n (IntKind.i64.wrap (x43.tdiv (2 : Int))) 1 fun a44 =>
            ∃ w45 : World, StoreAt a44 0 [.bool true] w42 w45 ∧ 
            ∃ k21, k21 < k20 ∧ I19 (IntKind.i64.wrap (i_22 - (1 : Int))) w45 k21))
          (∃ k21, k21 < k20 ∧ I19 (IntKind.i64.wrap (i_22 - (1 : Int))) w34 k21))
          (∃ k21, k21 < k20 ∧ I19 (IntKind.i64.wrap (i_22 - (1 : Int))) w29 k21))
        (K (.slice r2_p r2_n r2_c) w23))
theorem tseitin_cone.eq (g__p : Option Addr) (g__n : Nat) (g__c : Nat) (clauses__p : Option Addr) (clauses__n : Nat) (clauses__c : Nat) (w : World) (K : Value → World → Prop) : wpF Try.prog Try.f50 (.two .leaf (.two .leaf (.two (.two .leaf (.one (.loop [(18, 3)] (.two .leaf (.two .leaf (.two (.one (.two .leaf (.two .leaf (.one (.loop [(24, 3)] .leaf))))) .leaf)))))) (.two (.two .leaf (.one (.loop [(10, 3)] .leaf))) .leaf)))) [.slice g__p g__n g__c, .slice clauses__p clauses__n clauses__c] w K = tseitin_cone.w g__p g__n g__c clauses__p clauses__n clauses__c w K := by kernel_rfl
theorem tseitin_cone.ok : fnOk Try.prog Try.f50 2 = true := by kernel_rfl
theorem tseitin_cone.calls {g__p : Option Addr} {g__n : Nat} {g__c : Nat} {clauses__p : Option Addr} {clauses__n : Nat} {clauses__c : Nat} {w : World} {R : Ending → World → Prop} (h : tseitin_cone.w g__p g__n g__c clauses__p clauses__n clauses__c w fun v w' => R (.returned v) w') : Calls Try.prog 50 #[.slice g__p g__n g__c, .slice clauses__p clauses__n clauses__c] w R :=
  calls_of mixed Try.func50 tseitin_cone.ok rfl (fun K => tseitin_cone.eq g__p g__n g__c clauses__p clauses__n clauses__c w K) h

/-! ### fathom/tseitin.and: function 51 (named slots 3) -/
def tseitin_and.w (n_0 : Int) (n_1 : Int) (w : World) (K : Value → World → Prop) : Prop :=
  ∀ (n1 : Nat) (w2 : World), New (.cells #[.int .i64 n_0, .int .i64 n_1] 76) w n1 w2 → 
  ∃ x3 : Int, w2.cell? ((Addr.mk n1 0 none).add 0) = some (.int .i64 x3) ∧ 
  K (.bool (decide (x3 ≥ (0 : Int)))) w2
theorem tseitin_and.eq (n_0 : Int) (n_1 : Int) (w : World) (K : Value → World → Prop) : wpF Try.prog Try.f51 .leaf [.agg #[.int .i64 n_0, .int .i64 n_1]] w K = tseitin_and.w n_0 n_1 w K := by kernel_rfl
theorem tseitin_and.ok : fnOk Try.prog Try.f51 1 = true := by kernel_rfl
theorem tseitin_and.calls {n_0 : Int} {n_1 : Int} {w : World} {R : Ending → World → Prop} (h : tseitin_and.w n_0 n_1 w fun v w' => R (.returned v) w') : Calls Try.prog 51 #[.agg #[.int .i64 n_0, .int .i64 n_1]] w R :=
  calls_of mixed Try.func51 tseitin_and.ok rfl (fun K => tseitin_and.eq n_0 n_1 w K) h

/-! ### (*fathom/tseitin.builder).add: function 52 (named slots 7) -/
def tseitin_builder_add.w (b_ : Option Addr) (l__p : Option Addr) (l__n : Nat) (l__c : Nat) (w : World) (K : Value → World → Prop) : Prop :=
  ∃ I1 : Option Addr → Nat → Nat → Int → World → Nat → Prop, (∃ k2, I1 none 0 0 0 w k2) ∧
  ∀ (c_4_p : Option Addr) (c_4_n : Nat) (c_4_c : Nat) (v5 : Int) (w6 : World) (k2 : Nat) (_ : Fr), I1 c_4_p c_4_n c_4_c v5 w6 k2 →
  cnd (decide (v5 < (l__n : Int)))
    (ixK l__p l__n v5 1 fun a7 =>
      ∃ x8 : Int, w6.cell? a7 = some (.int .i64 x8) ∧ 
      cnd (x8 == (1 : Int))
      (K (.tuple #[]) w6)
      (cnd (x8 == (0 : Int))
        (∃ k3, k3 < k2 ∧ I1 c_4_p c_4_n c_4_c (IntKind.i64.wrap (v5 + (1 : Int))) w6 k3)
        (∃ a9 : Addr, b_ = some a9 ∧ ∃ x10 : Int, ∃ x11_p : Option Addr, ∃ x11_n : Nat, ∃ x11_c : Nat, ∃ x12_p : Option Addr, ∃ x12_n : Nat, ∃ x12_c : Nat, CellsAt w6 (a9.add 0) 0 [.int .i64 x10, .slice x11_p x11_n x11_c, .slice x12_p x12_n x12_c] ∧ 
          Calls Try.prog 26 #[.agg #[.int .i64 x10, .slice x11_p x11_n x11_c, .slice x12_p x12_n x12_c], .int .i64 x8] w6 fun e w13 => ∃ r14 : Int, e = .returned (.int .i64 r14) ∧ 
          ∀ (n15 : Nat) (w16 : World), New (.cells #[.int .i64 r14] 3) w13 n15 w16 → 
          ∃ w17 : World, ∃ r18_p : Option Addr, ∃ r18_n : Nat, ∃ r18_c : Nat, (Builtin.append_ #[24, 24] 24 #[.slice c_4_p c_4_n c_4_c, .slice (some (Addr.mk n15 0 none)) 1 1]).run Try.prog w16 = .ok (.slice r18_p r18_n r18_c) w17 ∧ 
          ∃ k3, k3 < k2 ∧ I1 r18_p r18_n r18_c (IntKind.i64.wrap (v5 + (1 : Int))) w17 k3)))
    (∃ a19 : Addr, b_ = some a19 ∧ ∃ x20_p : Option Addr, ∃ x20_n : Nat, ∃ x20_c : Nat, w6.cell? (((a19.add 0).add 0).add 1) = some (.slice x20_p x20_n x20_c) ∧ 
      ∀ (n21 : Nat) (w22 : World), New (.cells #[.slice c_4_p c_4_n c_4_c] 24) w6 n21 w22 → 
      ∃ w23 : World, ∃ r24_p : Option Addr, ∃ r24_n : Nat, ∃ r24_c : Nat, (Builtin.append_ #[34, 34] 34 #[.slice x20_p x20_n x20_c, .slice (some (Addr.mk n21 0 none)) 1 1]).run Try.prog w22 = .ok (.slice r24_p r24_n r24_c) w23 ∧ 
      ∃ a25 : Addr, b_ = some a25 ∧ ∃ w26 : World, StoreAt (((a25.add 0).add 0).add 1) 0 [.slice r24_p r24_n r24_c] w23 w26 ∧ 
      K (.tuple #[]) w26)
theorem tseitin_builder_add.eq (b_ : Option Addr) (l__p : Option Addr) (l__n : Nat) (l__c : Nat) (w : World) (K : Value → World → Prop) : wpF Try.prog Try.f52 (.two .leaf (.two (.two .leaf (.one (.loop [(4, 24), (9, 3)] .leaf))) .leaf)) [.pointer b_, .slice l__p l__n l__c] w K = tseitin_builder_add.w b_ l__p l__n l__c w K := by kernel_rfl
theorem tseitin_builder_add.ok : fnOk Try.prog Try.f52 2 = true := by kernel_rfl
theorem tseitin_builder_add.calls {b_ : Option Addr} {l__p : Option Addr} {l__n : Nat} {l__c : Nat} {w : World} {R : Ending → World → Prop} (h : tseitin_builder_add.w b_ l__p l__n l__c w fun v w' => R (.returned v) w') : Calls Try.prog 52 #[.pointer b_, .slice l__p l__n l__c] w R :=
  calls_of mixed Try.func52 tseitin_builder_add.ok rfl (fun K => tseitin_builder_add.eq b_ l__p l__n l__c w K) h

/-! ### fathom/lit.CheckCnf: function 53 (named slots 5) -/
def lit_CheckCnf.w (f_0 : Int) (f_1_p : Option Addr) (f_1_n : Nat) (f_1_c : Nat) (w : World) (K : Value → World → Prop) : Prop :=
  ∀ (n1 : Nat) (w2 : World), New (.cells #[.int .i64 f_0, .slice f_1_p f_1_n f_1_c] 37) w n1 w2 → 
  ∃ x3 : Int, w2.cell? ((Addr.mk n1 0 none).add 0) = some (.int .i64 x3) ∧ 
  cnd (decide (x3 < (0 : Int)))
  (K (.int .i64 1) w2)
  (∃ x4 : Int, w2.cell? ((Addr.mk n1 0 none).add 0) = some (.int .i64 x4) ∧ 
  cnd (decide (x4 > (1048576 : Int)))
  (K (.int .i64 1) w2)
  (∃ x5_p : Option Addr, ∃ x5_n : Nat, ∃ x5_c : Nat, w2.cell? ((Addr.mk n1 0 none).add 1) = some (.slice x5_p x5_n x5_c) ∧ 
  cnd (decide ((x5_n : Int) > (262144 : Int)))
  (K (.int .i64 1) w2)
  (∃ x6_p : Option Addr, ∃ x6_n : Nat, ∃ x6_c : Nat, w2.cell? ((Addr.mk n1 0 none).add 1) = some (.slice x6_p x6_n x6_c) ∧ 
    ∃ I7 : Int → World → Nat → Prop, (∃ k8, I7 0 w2 k8) ∧
    ∀ (v10 : Int) (w11 : World) (k8 : Nat) (_ : Fr), I7 v10 w11 k8 →
    cnd (decide (v10 < (x6_n : Int)))
      (ixK x6_p x6_n v10 1 fun a12 =>
        ∃ x13_p : Option Addr, ∃ x13_n : Nat, ∃ x13_c : Nat, w11.cell? a12 = some (.slice x13_p x13_n x13_c) ∧ 
        Calls Try.prog 77 #[.slice x13_p x13_n x13_c] w11 fun e w14 => ∃ r15 : Int, e = .returned (.int .i64 r15) ∧ 
        cnd (r15 != (0 : Int))
        (K (.int .i64 1) w14)
        (Calls Try.prog 68 #[.slice x13_p x13_n x13_c, .func (.func 78) #[] #[.pointer (some (Addr.mk n1 0 none))]] w14 fun e w16 => ∃ r17 : Bool, e = .returned (.bool r17) ∧ 
        cnd r17
        (K (.int .i64 1) w16)
        (∃ k9, k9 < k8 ∧ I7 (IntKind.i64.wrap (v10 + (1 : Int))) w16 k9)))
      (K (.int .i64 0) w11))))
theorem lit_CheckCnf.eq (f_0 : Int) (f_1_p : Option Addr) (f_1_n : Nat) (f_1_c : Nat) (w : World) (K : Value → World → Prop) : wpF Try.prog Try.f53 (.two .leaf (.two .leaf (.two (.two .leaf (.one (.loop [(22, 3)] .leaf))) .leaf))) [.agg #[.int .i64 f_0, .slice f_1_p f_1_n f_1_c]] w K = lit_CheckCnf.w f_0 f_1_p f_1_n f_1_c w K := by kernel_rfl
theorem lit_CheckCnf.ok : fnOk Try.prog Try.f53 1 = true := by kernel_rfl
theorem lit_CheckCnf.calls {f_0 : Int} {f_1_p : Option Addr} {f_1_n : Nat} {f_1_c : Nat} {w : World} {R : Ending → World → Prop} (h : lit_CheckCnf.w f_0 f_1_p f_1_n f_1_c w fun v w' => R (.returned v) w') : Calls Try.prog 53 #[.agg #[.int .i64 f_0, .slice f_1_p f_1_n f_1_c]] w R :=
  calls_of mixed Try.func53 lit_CheckCnf.ok rfl (fun K => lit_CheckCnf.eq f_0 f_1_p f_1_n f_1_c w K) h

/-! ### fathom/fathomref15.Is: function 54 (named slots 5) -/
def fathomref15_Is.w (g__p : Option Addr) (g__n : Nat) (g__c : Nat) (l_ : Int) (w : World) (K : Value → World → Prop) : Prop :=
  cnd (decide (l_ ≥ (0 : Int)))
  (K (.bool (decide (l_ ≤ (IntKind.i64.wrap ((IntKind.i64.wrap ((2 : Int) * (g__n : Int))) + (1 : Int)))))) w)
  (K (.bool false) w)
theorem fathomref15_Is.eq (g__p : Option Addr) (g__n : Nat) (g__c : Nat) (l_ : Int) (w : World) (K : Value → World → Prop) : wpF Try.prog Try.f54 .leaf [.slice g__p g__n g__c, .int .i64 l_] w K = fathomref15_Is.w g__p g__n g__c l_ w K := by kernel_rfl
theorem fathomref15_Is.ok : fnOk Try.prog Try.f54 2 = true := by kernel_rfl
theorem fathomref15_Is.calls {g__p : Option Addr} {g__n : Nat} {g__c : Nat} {l_ : Int} {w : World} {R : Ending → World → Prop} (h : fathomref15_Is.w g__p g__n g__c l_ w fun v w' => R (.returned v) w') : Calls Try.prog 54 #[.slice g__p g__n g__c, .int .i64 l_] w R :=
  calls_of mixed Try.func54 fathomref15_Is.ok rfl (fun K => fathomref15_Is.eq g__p g__n g__c l_ w K) h

/-! ### fathom/fathomref01.Lists: function 55 (named slots 6) -/
def fathomref01_Lists.w (a__p : Option Addr) (a__n : Nat) (a__c : Nat) (b__p : Option Addr) (b__n : Nat) (b__c : Nat) (w : World) (K : Value → World → Prop) : Prop :=
  cnd ((a__n : Int) != (b__n : Int))
  (K (.bool false) w)
  (∃ I1 : Int → World → Nat → Prop, (∃ k2, I1 0 w k2) ∧
    ∀ (i_4 : Int) (w5 : World) (k2 : Nat) (_ : Fr), I1 i_4 w5 k2 →
    cnd (decide (i_4 < (a__n : Int)))
      (ixK a__p a__n i_4 1 fun a6 =>
        ∃ x7_p : Option Addr, ∃ x7_n : Nat, ∃ x7_c : Nat, w5.drew.cell? a6 = some (.slice x7_p x7_n x7_c) ∧ 
        ixK b__p b__n i_4 1 fun a8 =>
        ∃ x9_p : Option Addr, ∃ x9_n : Nat, ∃ x9_c : Nat, w5.drew.cell? a8 = some (.slice x9_p x9_n x9_c) ∧ 
        Calls Try.prog 25 #[.slice x7_p x7_n x7_c, .slice x9_p x9_n x9_c] w5.drew fun e w10 => ∃ r11 : Bool, e = .returned (.bool r11) ∧ 
        cnd (!r11)
        (K (.bool false) w10)
        (∃ k3, k3 < k2 ∧ I1 (IntKind.i64.wrap (i_4 + (1 : Int))) w10 k3))
      (K (.bool true) w5))
theorem fathomref01_Lists.eq (a__p : Option Addr) (a__n : Nat) (a__c : Nat) (b__p : Option Addr) (b__n : Nat) (b__c : Nat) (w : World) (K : Value → World → Prop) : wpF Try.prog Try.f55 (.two .leaf (.two .leaf (.two (.two .leaf (.one (.loop [(5, 3)] .leaf))) .leaf))) [.slice a__p a__n a__c, .slice b__p b__n b__c] w K = fathomref01_Lists.w a__p a__n a__c b__p b__n b__c w K := by kernel_rfl
theorem fathomref01_Lists.ok : fnOk Try.prog Try.f55 2 = true := by kernel_rfl
theorem fathomref01_Lists.calls {a__p : Option Addr} {a__n : Nat} {a__c : Nat} {b__p : Option Addr} {b__n : Nat} {b__c : Nat} {w : World} {R : Ending → World → Prop} (h : fathomref01_Lists.w a__p a__n a__c b__p b__n b__c w fun v w' => R (.returned v) w') : Calls Try.prog 55 #[.slice a__p a__n a__c, .slice b__p b__n b__c] w R :=
  calls_of mixed Try.func55 fathomref01_Lists.ok rfl (fun K => fathomref01_Lists.eq a__p a__n a__c b__p b__n b__c w K) h

/-! ### fathom/fathomref18.Hangs: function 56 (named slots 10) -/
def fathomref18_Hangs.w (g__p : Option Addr) (g__n : Nat) (g__c : Nat) (clauses__p : Option Addr) (clauses__n : Nat) (clauses__c : Nat) (n_ : Int) (w : World) (K : Value → World → Prop) : Prop :=
  ∃ I1 : Int → World → Nat → Prop, (∃ k2, I1 0 w k2) ∧
  ∀ (i_4 : Int) (w5 : World) (k2 : Nat) (_ : Fr), I1 i_4 w5 k2 →
  cnd (decide (i_4 < (clauses__n : Int)))
    (∃ I6 : Int → World → Nat → Prop, (∃ k7, I6 0 w5 k7) ∧
      ∀ (k_9 : Int) (w10 : World) (k7 : Nat) (_ : Fr), I6 k_9 w10 k7 →
      ixK clauses__p clauses__n i_4 1 fun a11 =>
        ∃ x12_p : Option Addr, ∃ x12_n : Nat, ∃ x12_c : Nat, w10.cell? a11 = some (.slice x12_p x12_n x12_c) ∧ 
        cnd (decide (k_9 < (x12_n : Int)))
        (ixK clauses__p clauses__n i_4 1 fun a13 =>
          ∃ x14_p : Option Addr, ∃ x14_n : Nat, ∃ x14_c : Nat, w10.cell? a13 = some (.slice x14_p x14_n x14_c) ∧ 
          ixK x14_p x14_n k_9 1 fun a15 =>
          ∃ x16 : Int, w10.cell? a15 = some (.int .i64 x16) ∧ 
          (2 : Int) ≠ 0 ∧ cnd ((IntKind.i64.wrap (x16.tdiv (2 : Int))) == n_)
          (K (.bool true) w10)
          (∃ k8, k8 < k7 ∧ I6 (IntKind.i64.wrap (k_9 + (1 : Int))) w10 k8))
        (∃ k3, k3 < k2 ∧ I1 (IntKind.i64.wrap (i_4 + (1 : Int))) w10 k3))
    (∃ I17 : Int → World → Nat → Prop, (∃ k18, I17 n_ w5 k18) ∧
      ∀ (i_20 : Int) (w21 : World) (k18 : Nat) (_ : Fr), I17 i_20 w21 k18 →
      cnd (decide (i_20 < (g__n : Int)))
        (ixK g__p g__n i_20 2 fun a22 =>
          ∃ x23 : Int, w21.cell? (a22.add 0) = some (.int .i64 x23) ∧ 
          cnd (decide (x23 ≥ (0 : Int)))
          (ixK g__p g__n i_20 2 fun a24 =>
          ∃ x25 : Int, w21.cell? (a24.add 0) = some (.int .i64 x25) ∧ 
          (2 : Int) ≠ 0 ∧ cnd ((IntKind.i64.wrap (x25.tdiv (2 : Int))) == n_)
          (Calls Try.prog 56 #[.slice g__p g__n g__c, .slice clauses__p clauses__n clauses__c, .int .i64 (IntKind.i64.wrap (i_20 + (1 : Int)))] w21 fun e w26 => ∃ r27 : Bool, e = .returned (.bool r27) ∧ 
          cnd r27
          (K (.bool true) w26)
          (∃ k19, k19 < k18 ∧ I17 (IntKind.i64.wrap (i_20 + (1 : Int))) w26 k19))
          (ixK g__p g__n i_20 2 fun a28 =>
          ∃ x29 : Int, w21.cell? (a28.add 1) = some (.int .i64 x29) ∧ 
          (2 : Int) ≠ 0 ∧ cnd ((IntKind.i64.wrap (x29.tdiv (2 : Int))) == n_)
          (Calls Try.prog 56 #[.slice g__p g__n g__c, .slice clauses__p clauses__n clauses__c, .int .i64 (IntKind.i64.wrap (i_20 + (1 : Int)))] w21 fun e w30 => ∃ r31 : Bool, e = .returned (.bool r31) ∧ 
          cnd r31
          (K (.bool true) w30)
          (∃ k19, k19 < k18 ∧ I17 (IntKind.i64.wrap (i_20 + (1 : Int))) w30 k19))
          (∃ k19, k19 < k18 ∧ I17 (IntKind.i64.wrap (i_20 + (1 : Int))) w21 k19)))
          (∃ k19, k19 < k18 ∧ I17 (IntKind.i64.wrap (i_20 + (1 : Int))) w21 k19))
        (K (.bool false) w21))
theorem fathomref18_Hangs.eq (g__p : Option Addr) (g__n : Nat) (g__c : Nat) (clauses__p : Option Addr) (clauses__n : Nat) (clauses__c : Nat) (n_ : Int) (w : World) (K : Value → World → Prop) : wpF Try.prog Try.f56 (.two .leaf (.two (.two .leaf (.one (.loop [(7, 3)] (.two .leaf (.two (.one (.two .leaf (.one (.loop [(8, 3)] .leaf)))) .leaf))))) (.two (.two .leaf (.one (.loop [(9, 3)] .leaf))) .leaf))) [.slice g__p g__n g__c, .slice clauses__p clauses__n clauses__c, .int .i64 n_] w K = fathomref18_Hangs.w g__p g__n g__c clauses__p clauses__n clauses__c n_ w K := by kernel_rfl
theorem fathomref18_Hangs.ok : fnOk Try.prog Try.f56 3 = true := by kernel_rfl
theorem fathomref18_Hangs.calls {g__p : Option Addr} {g__n : Nat} {g__c : Nat} {clauses__p : Option Addr} {clauses__n : Nat} {clauses__c : Nat} {n_ : Int} {w : World} {R : Ending → World → Prop} (h : fathomref18_Hangs.w g__p g__n g__c clauses__p clauses__n clauses__c n_ w fun v w' => R (.returned v) w') : Calls Try.prog 56 #[.slice g__p g__n g__c, .slice clauses__p clauses__n clauses__c, .int .i64 n_] w R :=
  calls_of mixed Try.func56 fathomref18_Hangs.ok rfl (fun K => fathomref18_Hangs.eq g__p g__n g__c clauses__p clauses__n clauses__c n_ w K) h

/-! ### fathom/fathomref15.Not: function 57 (named slots 3) -/
def fathomref15_Not.w (l_ : Int) (w : World) (K : Value → World → Prop) : Prop :=
  cnd (decide (l_ < (0 : Int)))
  (K (.int .i64 (-1)) w)
  ((2 : Int) ≠ 0 ∧ cnd ((l_.tmod (2 : Int)) == (0 : Int))
    (K (.int .i64 (IntKind.i64.wrap (l_ + (1 : Int)))) w)
    (K (.int .i64 (IntKind.i64.wrap (l_ - (1 : Int)))) w))
theorem fathomref15_Not.eq (l_ : Int) (w : World) (K : Value → World → Prop) : wpF Try.prog Try.f57 .leaf [.int .i64 l_] w K = fathomref15_Not.w l_ w K := by kernel_rfl
theorem fathomref15_Not.ok : fnOk Try.prog Try.f57 1 = true := by kernel_rfl
theorem fathomref15_Not.calls {l_ : Int} {w : World} {R : Ending → World → Prop} (h : fathomref15_Not.w l_ w fun v w' => R (.returned v) w') : Calls Try.prog 57 #[.int .i64 l_] w R :=
  calls_of mixed Try.func57 fathomref15_Not.ok rfl (fun K => fathomref15_Not.eq l_ w K) h

/-! ### fathom/fathomref18.clause: function 58 (named slots 9) -/
def fathomref18_clause.w (vars__p : Option Addr) (vars__n : Nat) (vars__c : Nat) (l__p : Option Addr) (l__n : Nat) (l__c : Nat) (w : World) (K : Value → World → Prop) : Prop :=
  ∀ (n1 : Nat) (w2 : World), New (.cells #[] 3) w n1 w2 → 
  ∃ I3 : Option Addr → Nat → Nat → Int → World → Nat → Prop, (∃ k4, I3 (some (Addr.mk n1 0 none)) 0 0 0 w2 k4) ∧
  ∀ (out_6_p : Option Addr) (out_6_n : Nat) (out_6_c : Nat) (i_7 : Int) (w8 : World) (k4 : Nat) (_ : Fr), I3 out_6_p out_6_n out_6_c i_7 w8 k4 →
  cnd (decide (i_7 < (l__n : Int)))
    (ixK l__p l__n i_7 1 fun a9 =>
      ∃ x10 : Int, w8.cell? a9 = some (.int .i64 x10) ∧ 
      cnd (x10 == (1 : Int))
      (K (.tuple #[.slice none 0 0, .bool false]) w8)
      (ixK l__p l__n i_7 1 fun a11 =>
        ∃ x12 : Int, w8.cell? a11 = some (.int .i64 x12) ∧ 
        cnd (decide (x12 > (1 : Int)))
        (ixK l__p l__n i_7 1 fun a13 =>
          ∃ x14 : Int, w8.cell? a13 = some (.int .i64 x14) ∧ 
          (2 : Int) ≠ 0 ∧ ixK vars__p vars__n (IntKind.i64.wrap ((IntKind.i64.wrap (x14.tdiv (2 : Int))) - (1 : Int))) 1 fun a15 =>
          ∃ x16 : Int, w8.cell? a15 = some (.int .i64 x16) ∧ 
          ixK l__p l__n i_7 1 fun a17 =>
          ∃ x18 : Int, w8.cell? a17 = some (.int .i64 x18) ∧ 
          (2 : Int) ≠ 0 ∧ cnd ((x18.tmod (2 : Int)) == (1 : Int))
          (∀ (n19 : Nat) (w20 : World), New (.cells #[.int .i64 (IntKind.i64.wrap (0 - x16))] 3) w8 n19 w20 → 
            ∃ w21 : World, ∃ r22_p : Option Addr, ∃ r22_n : Nat, ∃ r22_c : Nat, (Builtin.append_ #[24, 24] 24 #[.slice out_6_p out_6_n out_6_c, .slice (some (Addr.mk n19 0 none)) 1 1]).run Try.prog w20 = .ok (.slice r22_p r22_n r22_c) w21 ∧ 
            ∃ k5, k5 < k4 ∧ I3 r22_p r22_n r22_c (IntKind.i64.wrap (i_7 + (1 : Int))) w21 k5)
          (∀ (n23 : Nat) (w24 : World), New (.cells #[.int .i64 x16] 3) w8 n23 w24 → 
            ∃ w25 : World, ∃ r26_p : Option Addr, ∃ r26_n : Nat, ∃ r26_c : Nat, (Builtin.append_ #[24, 24] 24 #[.slice out_6_p out_6_n out_6_c, .slice (some (Addr.mk n23 0 none)) 1 1]).run Try.prog w24 = .ok (.slice r26_p r26_n r26_c) w25 ∧ 
            ∃ k5, k5 < k4 ∧ I3 r26_p r26_n r26_c (IntKind.i64.wrap (i_7 + (1 : Int))) w25 k5))
        (∃ k5, k5 < k4 ∧ I3 out_6_p out_6_n out_6_c (IntKind.i64.wrap (i_7 + (1 : Int))) w8 k5)))
    (K (.tuple #[.slice out_6_p out_6_n out_6_c, .bool true]) w8)
theorem fathomref18_clause.eq (vars__p : Option Addr) (vars__n : Nat) (vars__c : Nat) (l__p : Option Addr) (l__n : Nat) (l__c : Nat) (w : World) (K : Value → World → Prop) : wpF Try.prog Try.f58 (.two .leaf (.two .leaf (.two (.two .leaf (.one (.loop [(6, 24), (7, 3)] .leaf))) .leaf))) [.slice vars__p vars__n vars__c, .slice l__p l__n l__c] w K = fathomref18_clause.w vars__p vars__n vars__c l__p l__n l__c w K := by kernel_rfl
theorem fathomref18_clause.ok : fnOk Try.prog Try.f58 2 = true := by kernel_rfl
theorem fathomref18_clause.calls {vars__p : Option Addr} {vars__n : Nat} {vars__c : Nat} {l__p : Option Addr} {l__n : Nat} {l__c : Nat} {w : World} {R : Ending → World → Prop} (h : fathomref18_clause.w vars__p vars__n vars__c l__p l__n l__c w fun v w' => R (.returned v) w') : Calls Try.prog 58 #[.slice vars__p vars__n vars__c, .slice l__p l__n l__c] w R :=
  calls_of mixed Try.func58 fathomref18_clause.ok rfl (fun K => fathomref18_clause.eq vars__p vars__n vars__c l__p l__n l__c w K) h

/-! ### fathom/aig.Check: function 63 (named slots 5) -/
def aig_Check.w (g__p : Option Addr) (g__n : Nat) (g__c : Nat) (w : World) (K : Value → World → Prop) : Prop :=
  cnd (decide ((g__n : Int) > (1048576 : Int)))
  (K (.int .i64 1) w)
  (∃ I1 : Int → World → Nat → Prop, (∃ k2, I1 0 w k2) ∧
    ∀ (v4 : Int) (w5 : World) (k2 : Nat) (_ : Fr), I1 v4 w5 k2 →
    cnd (decide (v4 < (g__n : Int)))
      (ixK g__p g__n v4 2 fun a6 =>
        ∃ x7 : Int, ∃ x8 : Int, CellsAt w5 a6 0 [.int .i64 x7, .int .i64 x8] ∧ 
        ∀ (n9 : Nat) (w10 : World), New (.cells #[.int .i64 0, .int .i64 0] 76) w5 n9 w10 → 
        ∃ w11 : World, StoreAt (Addr.mk n9 0 none) 0 [.int .i64 x7, .int .i64 x8] w10 w11 ∧ 
        (∃ x12 : Int, ∃ x13 : Int, CellsAt w11.drew (Addr.mk n9 0 none) 0 [.int .i64 x12, .int .i64 x13] ∧ 
        Calls Try.prog 72 #[] w11.drew fun e w14 => ∃ r15 : Int, ∃ r16 : Int, e = .returned (.agg #[.int .i64 r15, .int .i64 r16]) ∧ 
        ∃ w17 : World, ∃ r18 : Bool, (do eqGuard .neq 76 (.tmp 15) (.tmp 16) (.agg #[.int .i64 x12, .int .i64 x13]) (.agg #[.int .i64 r15, .int .i64 r16]); binOp .neq 76 (.agg #[.int .i64 x12, .int .i64 x13]) (.agg #[.int .i64 r15, .int .i64 r16])).run Try.prog w14 = .ok (.bool r18) w17 ∧ 
        cnd r18
        (∃ x19 : Int, w17.cell? ((Addr.mk n9 0 none).add 0) = some (.int .i64 x19) ∧ 
        cnd (decide (x19 < (0 : Int)))
        (K (.int .i64 1) w17)
        (∃ x20 : Int, w17.cell? ((Addr.mk n9 0 none).add 1) = some (.int .i64 x20) ∧ 
        cnd (decide (x20 < (0 : Int)))
        (K (.int .i64 1) w17)
        (∃ x21 : Int, w17.cell? ((Addr.mk n9 0 none).add 0) = some (.int .i64 x21) ∧ 
        cnd (decide (x21 > (IntKind.i64.wrap ((IntKind.i64.wrap ((2 : Int) * v4)) + (1 : Int)))))
        (K (.int .i64 1) w17)
        (∃ x22 : Int, w17.cell? ((Addr.mk n9 0 none).add 1) = some (.int .i64 x22) ∧ 
        cnd (decide (x22 > (IntKind.i64.wrap ((IntKind.i64.wrap ((2 : Int) * v4)) + (1 : Int)))))
        (K (.int .i64 1) w17)
        (∃ k3, k3 < k2 ∧ I1 (IntKind.i64.wrap (v4 + (1 : Int))) w17 k3)))))
        (∃ k3, k3 < k2 ∧ I1 (IntKind.i64.wrap (v4 + (1 : Int))) w17 k3)) ∧
      (Calls Try.prog 72 #[] w11.drew fun e w23 => ∃ r24 : Int, ∃ r25 : Int, e = .returned (.agg #[.int .i64 r24, .int .i64 r25]) ∧ 
        ∃ x26 : Int, ∃ x27 : Int, CellsAt w23 (Addr.mk n9 0 none) 0 [.int .i64 x26, .int .i64 x27] ∧ 
        ∃ w28 : World, ∃ r29 : Bool, (do eqGuard .neq 76 (.tmp 15) (.tmp 16) (.agg #[.int .i64 x26, .int .i64 x27]) (.agg #[.int .i64 r24, .int .i64 r25]); binOp .neq 76 (.agg #[.int .i64 x26, .int .i64 x27]) (.agg #[.int .i64 r24, .int .i64 r25])).run Try.prog w23 = .ok (.bool r29) w28 ∧ 
        cnd r29
        (∃ x30 : Int, w28.cell? ((Addr.mk n9 0 none).add 0) = some (.int .i64 x30) ∧ 
        cnd (decide (x30 < (0 : Int)))
        (K (.int .i64 1) w28)
        (∃ x31 : Int, w28.cell? ((Addr.mk n9 0 none).add 1) = some (.int .i64 x31) ∧ 
        cnd (decide (x31 < (0 : Int)))
        (K (.int .i64 1) w28)
        (∃ x32 : Int, w28.cell? ((Addr.mk n9 0 none).add 0) = some (.int .i64 x32) ∧ 
        cnd (decide (x32 > (IntKind.i64.wrap ((IntKind.i64.wrap ((2 : Int) * v4)) + (1 : Int)))))
        (K (.int .i64 1) w28)
        (∃ x33 : Int, w28.cell? ((Addr.mk n9 0 none).add 1) = some (.int .i64 x33) ∧ 
        cnd (decide (x33 > (IntKind.i64.wrap ((IntKind.i64.wrap ((2 : Int) * v4)) + (1 : Int)))))
        (K (.int .i64 1) w28)
        (∃ k3, k3 < k2 ∧ I1 (IntKind.i64.wrap (v4 + (1 : Int))) w28 k3)))))
        (∃ k3, k3 < k2 ∧ I1 (IntKind.i64.wrap (v4 + (1 : Int))) w28 k3)))
      (K (.int .i64 0) w5))
theorem aig_Check.eq (g__p : Option Addr) (g__n : Nat) (g__c : Nat) (w : World) (K : Value → World → Prop) : wpF Try.prog Try.f63 (.two .leaf (.two .leaf (.two (.two .leaf (.one (.loop [(10, 3)] .leaf))) .leaf))) [.slice g__p g__n g__c] w K = aig_Check.w g__p g__n g__c w K := by kernel_rfl
theorem aig_Check.ok : fnOk Try.prog Try.f63 1 = true := by kernel_rfl
theorem aig_Check.calls {g__p : Option Addr} {g__n : Nat} {g__c : Nat} {w : World} {R : Ending → World → Prop} (h : aig_Check.w g__p g__n g__c w fun v w' => R (.returned v) w') : Calls Try.prog 63 #[.slice g__p g__n g__c] w R :=
  calls_of mixed Try.func63 aig_Check.ok rfl (fun K => aig_Check.eq g__p g__n g__c w K) h

/-! ### fathom/lit.Value: function 64 (named slots 6) -/
def lit_Value.w (m__p : Option Addr) (m__n : Nat) (m__c : Nat) (l_ : Int) (w : World) (K : Value → World → Prop) : Prop :=
  Calls Try.prog 82 #[.int .i64 l_] w fun e w1 => ∃ r2 : Bool, e = .returned (.bool r2) ∧ 
  cnd (!r2)
  (K (.int .i64 0) w1)
  (Calls Try.prog 79 #[.int .i64 l_] w1 fun e w3 => ∃ r4 : Int, e = .returned (.int .i64 r4) ∧ 
  cnd (decide (r4 > (m__n : Int)))
  (K (.int .i64 0) w3)
  (Calls Try.prog 79 #[.int .i64 l_] w3 fun e w5 => ∃ r6 : Int, e = .returned (.int .i64 r6) ∧ 
    ixK m__p m__n (IntKind.i64.wrap (r6 - (1 : Int))) 1 fun a7 =>
    ∃ x8 : Int, w5.cell? a7 = some (.int .i64 x8) ∧ 
    cnd (x8 == (0 : Int))
    (K (.int .i64 0) w5)
    (cnd ((decide (x8 > (0 : Int))) == (decide (l_ > (0 : Int))))
      (K (.int .i64 1) w5)
      (K (.int .i64 (-1)) w5))))
theorem lit_Value.eq (m__p : Option Addr) (m__n : Nat) (m__c : Nat) (l_ : Int) (w : World) (K : Value → World → Prop) : wpF Try.prog Try.f64 .leaf [.slice m__p m__n m__c, .int .i64 l_] w K = lit_Value.w m__p m__n m__c l_ w K := by kernel_rfl
theorem lit_Value.ok : fnOk Try.prog Try.f64 2 = true := by kernel_rfl
theorem lit_Value.calls {m__p : Option Addr} {m__n : Nat} {m__c : Nat} {l_ : Int} {w : World} {R : Ending → World → Prop} (h : lit_Value.w m__p m__n m__c l_ w fun v w' => R (.returned v) w') : Calls Try.prog 64 #[.slice m__p m__n m__c, .int .i64 l_] w R :=
  calls_of mixed Try.func64 lit_Value.ok rfl (fun K => lit_Value.eq m__p m__n m__c l_ w K) h

/-! ### fathom/fathomref01.Lit: function 65 (named slots 3) -/
def fathomref01_Lit.w (l_ : Int) (w : World) (K : Value → World → Prop) : Prop :=
  cnd (l_ != (0 : Int))
  (cnd (decide (l_ ≥ (-1048576)))
  (K (.bool (decide (l_ ≤ (1048576 : Int)))) w)
  (K (.bool false) w))
  (K (.bool false) w)
theorem fathomref01_Lit.eq (l_ : Int) (w : World) (K : Value → World → Prop) : wpF Try.prog Try.f65 .leaf [.int .i64 l_] w K = fathomref01_Lit.w l_ w K := by kernel_rfl
theorem fathomref01_Lit.ok : fnOk Try.prog Try.f65 1 = true := by kernel_rfl
theorem fathomref01_Lit.calls {l_ : Int} {w : World} {R : Ending → World → Prop} (h : fathomref01_Lit.w l_ w fun v w' => R (.returned v) w') : Calls Try.prog 65 #[.int .i64 l_] w R :=
  calls_of mixed Try.func65 fathomref01_Lit.ok rfl (fun K => fathomref01_Lit.eq l_ w K) h

/-! ### fathom/fathomref01.Var: function 66 (named slots 3) -/
def fathomref01_Var.w (l_ : Int) (w : World) (K : Value → World → Prop) : Prop :=
  cnd (decide (l_ < (0 : Int)))
  (K (.int .i64 (IntKind.i64.wrap (0 - l_))) w)
  (K (.int .i64 l_) w)
theorem fathomref01_Var.eq (l_ : Int) (w : World) (K : Value → World → Prop) : wpF Try.prog Try.f66 .leaf [.int .i64 l_] w K = fathomref01_Var.w l_ w K := by kernel_rfl
theorem fathomref01_Var.ok : fnOk Try.prog Try.f66 1 = true := by kernel_rfl
theorem fathomref01_Var.calls {l_ : Int} {w : World} {R : Ending → World → Prop} (h : fathomref01_Var.w l_ w fun v w' => R (.returned v) w') : Calls Try.prog 66 #[.int .i64 l_] w R :=
  calls_of mixed Try.func66 fathomref01_Var.ok rfl (fun K => fathomref01_Var.eq l_ w K) h

/-! ### fathom/fathomref01.Clause: function 67 (named slots 7) -/
def fathomref01_Clause.w (m__p : Option Addr) (m__n : Nat) (m__c : Nat) (c__p : Option Addr) (c__n : Nat) (c__c : Nat) (w : World) (K : Value → World → Prop) : Prop :=
  ∃ I1 : Bool → Int → World → Nat → Prop, (∃ k2, I1 false 0 w k2) ∧
  ∀ (open_4 : Bool) (i_5 : Int) (w6 : World) (k2 : Nat) (_ : Fr), I1 open_4 i_5 w6 k2 →
  cnd (decide (i_5 < (c__n : Int)))
    (ixK c__p c__n i_5 1 fun a7 =>
      ∃ x8 : Int, w6.cell? a7 = some (.int .i64 x8) ∧ 
      Calls Try.prog 35 #[.slice m__p m__n m__c, .int .i64 x8] w6 fun e w9 => ∃ r10 : Int, e = .returned (.int .i64 r10) ∧ 
      cnd (r10 == (1 : Int))
      (K (.int .i64 1) w9)
      (cnd open_4
        (∃ k3, k3 < k2 ∧ I1 true (IntKind.i64.wrap (i_5 + (1 : Int))) w9 k3)
        (ixK c__p c__n i_5 1 fun a11 =>
        ∃ x12 : Int, w9.cell? a11 = some (.int .i64 x12) ∧ 
        Calls Try.prog 35 #[.slice m__p m__n m__c, .int .i64 x12] w9 fun e w13 => ∃ r14 : Int, e = .returned (.int .i64 r14) ∧ 
        ∃ k3, k3 < k2 ∧ I1 (r14 == (0 : Int)) (IntKind.i64.wrap (i_5 + (1 : Int))) w13 k3)))
    (cnd open_4
      (K (.int .i64 0) w6)
      (K (.int .i64 (-1)) w6))
theorem fathomref01_Clause.eq (m__p : Option Addr) (m__n : Nat) (m__c : Nat) (c__p : Option Addr) (c__n : Nat) (c__c : Nat) (w : World) (K : Value → World → Prop) : wpF Try.prog Try.f67 (.two .leaf (.two .leaf (.two (.two .leaf (.one (.loop [(5, 4), (6, 3)] .leaf))) .leaf))) [.slice m__p m__n m__c, .slice c__p c__n c__c] w K = fathomref01_Clause.w m__p m__n m__c c__p c__n c__c w K := by kernel_rfl
theorem fathomref01_Clause.ok : fnOk Try.prog Try.f67 2 = true := by kernel_rfl
theorem fathomref01_Clause.calls {m__p : Option Addr} {m__n : Nat} {m__c : Nat} {c__p : Option Addr} {c__n : Nat} {c__c : Nat} {w : World} {R : Ending → World → Prop} (h : fathomref01_Clause.w m__p m__n m__c c__p c__n c__c w fun v w' => R (.returned v) w') : Calls Try.prog 67 #[.slice m__p m__n m__c, .slice c__p c__n c__c] w R :=
  calls_of mixed Try.func67 fathomref01_Clause.ok rfl (fun K => fathomref01_Clause.eq m__p m__n m__c c__p c__n c__c w K) h

/-! ### slices.ContainsFunc[[]int,int]: function 68 (named slots 5) -/
def slices_ContainsFunc_int_int.w (s__p : Option Addr) (s__n : Nat) (s__c : Nat) (f_f : FuncId) (f_v : Array Value) (w : World) (K : Value → World → Prop) : Prop :=
  Calls Try.prog 83 #[.slice s__p s__n s__c, .func (.func f_f) #[] f_v] w fun e w1 => ∃ r2 : Int, e = .returned (.int .i64 r2) ∧ 
  K (.bool (decide (r2 ≥ (0 : Int)))) w1
theorem slices_ContainsFunc_int_int.eq (s__p : Option Addr) (s__n : Nat) (s__c : Nat) (f_f : FuncId) (f_v : Array Value) (w : World) (K : Value → World → Prop) : wpF Try.prog Try.f68 .leaf [.slice s__p s__n s__c, .func (.func f_f) #[] f_v] w K = slices_ContainsFunc_int_int.w s__p s__n s__c f_f f_v w K := by kernel_rfl
theorem slices_ContainsFunc_int_int.ok : fnOk Try.prog Try.f68 2 = true := by kernel_rfl
theorem slices_ContainsFunc_int_int.calls {s__p : Option Addr} {s__n : Nat} {s__c : Nat} {f_f : FuncId} {f_v : Array Value} {w : World} {R : Ending → World → Prop} (h : slices_ContainsFunc_int_int.w s__p s__n s__c f_f f_v w fun v w' => R (.returned v) w') : Calls Try.prog 68 #[.slice s__p s__n s__c, .func (.func f_f) #[] f_v] w R :=
  calls_of mixed Try.func68 slices_ContainsFunc_int_int.ok rfl (fun K => slices_ContainsFunc_int_int.eq s__p s__n s__c f_f f_v w K) h

/-! ### fathom/tseitin.Asked$1: function 69 (named slots 4) -/
def tseitin_Asked_1.w (l_ : Int) (c0_ : Addr) (w : World) (K : Value → World → Prop) : Prop :=
  ∃ x1_p : Option Addr, ∃ x1_n : Nat, ∃ x1_c : Nat, w.cell? c0_ = some (.slice x1_p x1_n x1_c) ∧ 
  Calls Try.prog 70 #[.slice x1_p x1_n x1_c, .int .i64 l_] w fun e w2 => ∃ r3 : Bool, e = .returned (.bool r3) ∧ 
  K (.bool r3) w2
theorem tseitin_Asked_1.eq (l_ : Int) (c0_ : Addr) (w : World) (K : Value → World → Prop) : wpF Try.prog Try.f69 .leaf [.int .i64 l_, .pointer (some c0_)] w K = tseitin_Asked_1.w l_ c0_ w K := by kernel_rfl
theorem tseitin_Asked_1.ok : fnOk Try.prog Try.f69 2 = true := by kernel_rfl
theorem tseitin_Asked_1.calls {l_ : Int} {c0_ : Addr} {w : World} {R : Ending → World → Prop} (h : tseitin_Asked_1.w l_ c0_ w fun v w' => R (.returned v) w') : Calls Try.prog 69 #[.int .i64 l_, .pointer (some c0_)] w R :=
  calls_of mixed Try.func69 tseitin_Asked_1.ok rfl (fun K => tseitin_Asked_1.eq l_ c0_ w K) h

/-! ### fathom/aig.Value: function 70 (named slots 5) -/
def aig_Value.w (v__p : Option Addr) (v__n : Nat) (v__c : Nat) (l_ : Int) (w : World) (K : Value → World → Prop) : Prop :=
  cnd (decide (l_ < (0 : Int)))
  (K (.bool false) w)
  ((2 : Int) ≠ 0 ∧ cnd (decide ((IntKind.i64.wrap (l_.tdiv (2 : Int))) > (v__n : Int)))
  (K (.bool false) w)
  (cnd (decide (l_ < (2 : Int)))
    (K (.bool (l_ == (1 : Int))) w)
    ((2 : Int) ≠ 0 ∧ ixK v__p v__n (IntKind.i64.wrap ((IntKind.i64.wrap (l_.tdiv (2 : Int))) - (1 : Int))) 1 fun a1 =>
      ∃ x2 : Bool, w.cell? a1 = some (.bool x2) ∧ 
      (2 : Int) ≠ 0 ∧ K (.bool (!(x2 == ((l_.tmod (2 : Int)) == (1 : Int))))) w)))
theorem aig_Value.eq (v__p : Option Addr) (v__n : Nat) (v__c : Nat) (l_ : Int) (w : World) (K : Value → World → Prop) : wpF Try.prog Try.f70 .leaf [.slice v__p v__n v__c, .int .i64 l_] w K = aig_Value.w v__p v__n v__c l_ w K := by kernel_rfl
theorem aig_Value.ok : fnOk Try.prog Try.f70 2 = true := by kernel_rfl
theorem aig_Value.calls {v__p : Option Addr} {v__n : Nat} {v__c : Nat} {l_ : Int} {w : World} {R : Ending → World → Prop} (h : aig_Value.w v__p v__n v__c l_ w fun v w' => R (.returned v) w') : Calls Try.prog 70 #[.slice v__p v__n v__c, .int .i64 l_] w R :=
  calls_of mixed Try.func70 aig_Value.ok rfl (fun K => aig_Value.eq v__p v__n v__c l_ w K) h

/-! ### fathom/aig.input: function 72 (named slots 1) -/
def aig_input.w (w : World) (K : Value → World → Prop) : Prop :=
  ∀ (n1 : Nat) (w2 : World), New (.cells #[.int .i64 0, .int .i64 0] 76) w n1 w2 → 
  ∃ w3 : World, StoreAt (Addr.mk n1 0 none) 0 [.int .i64 (-1), .int .i64 (-1)] w2 w3 ∧ 
  ∃ x4 : Int, ∃ x5 : Int, CellsAt w3 (Addr.mk n1 0 none) 0 [.int .i64 x4, .int .i64 x5] ∧ 
  K (.agg #[.int .i64 x4, .int .i64 x5]) w3
theorem aig_input.eq (w : World) (K : Value → World → Prop) : wpF Try.prog Try.f72 .leaf [] w K = aig_input.w  w K := by kernel_rfl
theorem aig_input.ok : fnOk Try.prog Try.f72 0 = true := by kernel_rfl
theorem aig_input.calls {w : World} {R : Ending → World → Prop} (h : aig_input.w  w fun v w' => R (.returned v) w') : Calls Try.prog 72 #[] w R :=
  calls_of mixed Try.func72 aig_input.ok rfl (fun K => aig_input.eq  w K) h

/-! ### fathom/tseitin.may$1: function 76 (named slots 4) -/
def tseitin_may_1.w (l_ : Int) (c0_ : Addr) (w : World) (K : Value → World → Prop) : Prop :=
  cnd (decide (l_ < (0 : Int)))
  (K (.bool true) w)
  (∃ x1_p : Option Addr, ∃ x1_n : Nat, ∃ x1_c : Nat, w.cell? c0_ = some (.slice x1_p x1_n x1_c) ∧ 
  K (.bool (decide (l_ > (IntKind.i64.wrap ((IntKind.i64.wrap ((2 : Int) * (x1_n : Int))) + (1 : Int)))))) w)
theorem tseitin_may_1.eq (l_ : Int) (c0_ : Addr) (w : World) (K : Value → World → Prop) : wpF Try.prog Try.f76 .leaf [.int .i64 l_, .pointer (some c0_)] w K = tseitin_may_1.w l_ c0_ w K := by kernel_rfl
theorem tseitin_may_1.ok : fnOk Try.prog Try.f76 2 = true := by kernel_rfl
theorem tseitin_may_1.calls {l_ : Int} {c0_ : Addr} {w : World} {R : Ending → World → Prop} (h : tseitin_may_1.w l_ c0_ w fun v w' => R (.returned v) w') : Calls Try.prog 76 #[.int .i64 l_, .pointer (some c0_)] w R :=
  calls_of mixed Try.func76 tseitin_may_1.ok rfl (fun K => tseitin_may_1.eq l_ c0_ w K) h

/-! ### fathom/lit.Check: function 77 (named slots 3) -/
def lit_Check.w (c__p : Option Addr) (c__n : Nat) (c__c : Nat) (w : World) (K : Value → World → Prop) : Prop :=
  cnd (decide ((c__n : Int) > (4096 : Int)))
  (K (.int .i64 1) w)
  (Calls Try.prog 68 #[.slice c__p c__n c__c, .func (.func 87) #[] #[]] w fun e w1 => ∃ r2 : Bool, e = .returned (.bool r2) ∧ 
  cnd r2
  (K (.int .i64 1) w1)
  (K (.int .i64 0) w1))
theorem lit_Check.eq (c__p : Option Addr) (c__n : Nat) (c__c : Nat) (w : World) (K : Value → World → Prop) : wpF Try.prog Try.f77 .leaf [.slice c__p c__n c__c] w K = lit_Check.w c__p c__n c__c w K := by kernel_rfl
theorem lit_Check.ok : fnOk Try.prog Try.f77 1 = true := by kernel_rfl
theorem lit_Check.calls {c__p : Option Addr} {c__n : Nat} {c__c : Nat} {w : World} {R : Ending → World → Prop} (h : lit_Check.w c__p c__n c__c w fun v w' => R (.returned v) w') : Calls Try.prog 77 #[.slice c__p c__n c__c] w R :=
  calls_of mixed Try.func77 lit_Check.ok rfl (fun K => lit_Check.eq c__p c__n c__c w K) h

/-! ### fathom/lit.CheckCnf$1: function 78 (named slots 4) -/
def lit_CheckCnf_1.w (l_ : Int) (c0_ : Addr) (w : World) (K : Value → World → Prop) : Prop :=
  (Calls Try.prog 79 #[.int .i64 l_] w.drew fun e w1 => ∃ r2 : Int, e = .returned (.int .i64 r2) ∧ 
  ∃ x3 : Int, w1.cell? (c0_.add 0) = some (.int .i64 x3) ∧ 
  K (.bool (decide (r2 > x3))) w1) ∧
(∃ x4 : Int, w.drew.cell? (c0_.add 0) = some (.int .i64 x4) ∧ 
  Calls Try.prog 79 #[.int .i64 l_] w.drew fun e w5 => ∃ r6 : Int, e = .returned (.int .i64 r6) ∧ 
  K (.bool (decide (r6 > x4))) w5)
theorem lit_CheckCnf_1.eq (l_ : Int) (c0_ : Addr) (w : World) (K : Value → World → Prop) : wpF Try.prog Try.f78 .leaf [.int .i64 l_, .pointer (some c0_)] w K = lit_CheckCnf_1.w l_ c0_ w K := by kernel_rfl
theorem lit_CheckCnf_1.ok : fnOk Try.prog Try.f78 2 = true := by kernel_rfl
theorem lit_CheckCnf_1.calls {l_ : Int} {c0_ : Addr} {w : World} {R : Ending → World → Prop} (h : lit_CheckCnf_1.w l_ c0_ w fun v w' => R (.returned v) w') : Calls Try.prog 78 #[.int .i64 l_, .pointer (some c0_)] w R :=
  calls_of mixed Try.func78 lit_CheckCnf_1.ok rfl (fun K => lit_CheckCnf_1.eq l_ c0_ w K) h

/-! ### fathom/lit.amount: function 79 (named slots 3) -/
def lit_amount.w (l_ : Int) (w : World) (K : Value → World → Prop) : Prop :=
  K (.int .i64 (imax l_ (IntKind.i64.wrap (0 - l_)))) w
theorem lit_amount.eq (l_ : Int) (w : World) (K : Value → World → Prop) : wpF Try.prog Try.f79 .leaf [.int .i64 l_] w K = lit_amount.w l_ w K := by kernel_rfl
theorem lit_amount.ok : fnOk Try.prog Try.f79 1 = true := by kernel_rfl
theorem lit_amount.calls {l_ : Int} {w : World} {R : Ending → World → Prop} (h : lit_amount.w l_ w fun v w' => R (.returned v) w') : Calls Try.prog 79 #[.int .i64 l_] w R :=
  calls_of mixed Try.func79 lit_amount.ok rfl (fun K => lit_amount.eq l_ w K) h

/-! ### fathom/lit.is: function 82 (named slots 3) -/
def lit_is.w (l_ : Int) (w : World) (K : Value → World → Prop) : Prop :=
  cnd (l_ != (0 : Int))
  (cnd (decide (l_ ≥ (-1048576)))
  (K (.bool (decide (l_ ≤ (1048576 : Int)))) w)
  (K (.bool false) w))
  (K (.bool false) w)
theorem lit_is.eq (l_ : Int) (w : World) (K : Value → World → Prop) : wpF Try.prog Try.f82 .leaf [.int .i64 l_] w K = lit_is.w l_ w K := by kernel_rfl
theorem lit_is.ok : fnOk Try.prog Try.f82 1 = true := by kernel_rfl
theorem lit_is.calls {l_ : Int} {w : World} {R : Ending → World → Prop} (h : lit_is.w l_ w fun v w' => R (.returned v) w') : Calls Try.prog 82 #[.int .i64 l_] w R :=
  calls_of mixed Try.func82 lit_is.ok rfl (fun K => lit_is.eq l_ w K) h

/-! ### slices.IndexFunc[[]int,int]: function 83 (named slots 5) -/
def slices_IndexFunc_int_int.w (s__p : Option Addr) (s__n : Nat) (s__c : Nat) (f_f : FuncId) (f_v : Array Value) (w : World) (K : Value → World → Prop) : Prop :=
  ∃ I1 : Int → World → Nat → Prop, (∃ k2, I1 0 w k2) ∧
  ∀ (v4 : Int) (w5 : World) (k2 : Nat) (_ : Fr), I1 v4 w5 k2 →
  cnd (decide (v4 < (s__n : Int)))
    (ixK s__p s__n v4 1 fun a6 =>
      ∃ x7 : Int, w5.cell? a6 = some (.int .i64 x7) ∧ 
      cnd (entB Try.prog f_f) (Calls Try.prog f_f (#[] ++ #[.int .i64 x7] ++ f_v) w5 fun e w8 => ∃ r9 : Bool, e = .returned (.bool r9) ∧ 
      cnd r9
      (K (.int .i64 v4) w8)
      (∃ k3, k3 < k2 ∧ I1 (IntKind.i64.wrap (v4 + (1 : Int))) w8 k3)) False)
    (K (.int .i64 (-1)) w5)
theorem slices_IndexFunc_int_int.eq (s__p : Option Addr) (s__n : Nat) (s__c : Nat) (f_f : FuncId) (f_v : Array Value) (w : World) (K : Value → World → Prop) : wpF Try.prog Try.f83 (.two .leaf (.two (.two .leaf (.one (.loop [(8, 3)] .leaf))) .leaf)) [.slice s__p s__n s__c, .func (.func f_f) #[] f_v] w K = slices_IndexFunc_int_int.w s__p s__n s__c f_f f_v w K := by kernel_rfl
theorem slices_IndexFunc_int_int.ok : fnOk Try.prog Try.f83 2 = true := by kernel_rfl
theorem slices_IndexFunc_int_int.calls {s__p : Option Addr} {s__n : Nat} {s__c : Nat} {f_f : FuncId} {f_v : Array Value} {w : World} {R : Ending → World → Prop} (h : slices_IndexFunc_int_int.w s__p s__n s__c f_f f_v w fun v w' => R (.returned v) w') : Calls Try.prog 83 #[.slice s__p s__n s__c, .func (.func f_f) #[] f_v] w R :=
  calls_of mixed Try.func83 slices_IndexFunc_int_int.ok rfl (fun K => slices_IndexFunc_int_int.eq s__p s__n s__c f_f f_v w K) h

/-! ### fathom/lit.Check$1: function 87 (named slots 3) -/
def lit_Check_1.w (l_ : Int) (w : World) (K : Value → World → Prop) : Prop :=
  Calls Try.prog 82 #[.int .i64 l_] w fun e w1 => ∃ r2 : Bool, e = .returned (.bool r2) ∧ 
  K (.bool (!r2)) w1
theorem lit_Check_1.eq (l_ : Int) (w : World) (K : Value → World → Prop) : wpF Try.prog Try.f87 .leaf [.int .i64 l_] w K = lit_Check_1.w l_ w K := by kernel_rfl
theorem lit_Check_1.ok : fnOk Try.prog Try.f87 1 = true := by kernel_rfl
theorem lit_Check_1.calls {l_ : Int} {w : World} {R : Ending → World → Prop} (h : lit_Check_1.w l_ w fun v w' => R (.returned v) w') : Calls Try.prog 87 #[.int .i64 l_] w R :=
  calls_of mixed Try.func87 lit_Check_1.ok rfl (fun K => lit_Check_1.eq l_ w K) h

end Go.Proofs.Ytambabpklfeaoaa.W
