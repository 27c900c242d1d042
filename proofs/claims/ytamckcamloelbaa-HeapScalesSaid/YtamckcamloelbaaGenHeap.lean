/- The functions that the statements reach, printed as what the frame asks of them, each checked by the kernel against the loaded text. -/
import Derived.Test.YtamckcamloelbaaProg
import Derived.Test.YtamckcamloelbaaFwSound
namespace Go.Proofs.Ytamckcamloelbaa.W
open Go Go.Fw Go.Proofs
set_option linter.unusedVariables false

theorem mixed : Try.prog.follows .mixedOrders = true := by kernel_rfl

abbrev fathomlaw10_LubyNumbers.id : FuncId := 3
abbrev fathomlaw10_LubyPowers.id : FuncId := 4
abbrev fathomlaw10_LubyTicks.id : FuncId := 5
abbrev fathomlaw10_LubyPaces.id : FuncId := 6
abbrev fathomlaw02_ArenaActs.id : FuncId := 7
abbrev fathomlaw02_ArenaGets.id : FuncId := 8
abbrev fathomlaw02_ArenaPacks.id : FuncId := 9
abbrev fathomlaw02_ArenaNobody.id : FuncId := 10
abbrev fathomlaw09_HeapOrders.id : FuncId := 11
abbrev fathomlaw09_HeapActs.id : FuncId := 12
abbrev fathomlaw09_HeapScales.id : FuncId := 13
abbrev fathomlaw09_HeapNew.id : FuncId := 14
abbrev luby_Number.id : FuncId := 15
abbrev fathomref10_Number.id : FuncId := 16
abbrev luby_Sum.id : FuncId := 17
abbrev fathomlaw10_awake.id : FuncId := 18
abbrev fathomref10_Sum.id : FuncId := 19
abbrev luby_Tick.id : FuncId := 20
abbrev fathomref10_May.id : FuncId := 21
abbrev luby_Check.id : FuncId := 22
abbrev luby_Until.id : FuncId := 23
abbrev fathomref10_Tick.id : FuncId := 24
abbrev luby_Start.id : FuncId := 25
abbrev fathomlaw02_light.id : FuncId := 26
abbrev fathomlaw02_awake.id : FuncId := 27
abbrev fathomlaw02_Play.id : FuncId := 28
abbrev fathomlaw02_like.id : FuncId := 29
abbrev arena_Arena_Get.id : FuncId := 30
abbrev fathomref02_Get.id : FuncId := 31
abbrev fathomref01_Ints.id : FuncId := 32
abbrev arena_Arena_Count.id : FuncId := 33
abbrev arena_Arena_Pack.id : FuncId := 34
abbrev arena_Arena_Waste.id : FuncId := 35
abbrev arena_Arena_Add.id : FuncId := 36
abbrev arena_Arena_Drop.id : FuncId := 37
abbrev arena_Arena_Swap.id : FuncId := 38
abbrev arena_Arena_Places.id : FuncId := 39
abbrev arena_Arena_Words.id : FuncId := 40
abbrev fathomlaw09_play.id : FuncId := 41
abbrev fathomref09_Len.id : FuncId := 42
abbrev heap_Heap_Pop.id : FuncId := 43
abbrev fathomref09_Set.id : FuncId := 44
abbrev heap_Heap_Len.id : FuncId := 45
abbrev fathomlaw09_awake.id : FuncId := 46
abbrev fathomlaw09_like.id : FuncId := 47
abbrev heap_Heap_Score.id : FuncId := 48
abbrev heap_Heap_Decay.id : FuncId := 49
abbrev fathomref09_Decay.id : FuncId := 50
abbrev heap_Heap_Step.id : FuncId := 51
abbrev heap_New.id : FuncId := 52
abbrev heap_Heap_Has.id : FuncId := 53
abbrev heap_Heap_Best.id : FuncId := 54
abbrev heap_Heap_Push.id : FuncId := 55
abbrev heap_Heap_Bump.id : FuncId := 56
abbrev luby_number.id : FuncId := 57
abbrev bits_Len.id : FuncId := 58
abbrev arena_New.id : FuncId := 59
abbrev fathomref02_Add.id : FuncId := 60
abbrev fathomref02_Drop.id : FuncId := 61
abbrev fathomref02_Swap.id : FuncId := 62
abbrev fathomref02_Pack.id : FuncId := 63
abbrev fathomref02_Places.id : FuncId := 64
abbrev fathomref02_Words.id : FuncId := 65
abbrev fathomref02_Waste.id : FuncId := 66
abbrev arena_Arena_has.id : FuncId := 67
abbrev arena_Arena_lits.id : FuncId := 68
abbrev fathomref02_at.id : FuncId := 69
abbrev lit_Check.id : FuncId := 70
abbrev fathomref09_New.id : FuncId := 71
abbrev fathomref09_Bump.id : FuncId := 72
abbrev fathomref09_Best.id : FuncId := 73
abbrev heap_Heap_put.id : FuncId := 74
abbrev heap_Heap_fall.id : FuncId := 75
abbrev heap_Heap_is.id : FuncId := 76
abbrev heap_Heap_scale.id : FuncId := 77
abbrev fathomref09_scaled.id : FuncId := 78
abbrev heap_Heap_up.id : FuncId := 79
abbrev bits_Len32.id : FuncId := 80
abbrev bits_Len64.id : FuncId := 81
abbrev fathomref01_May.id : FuncId := 82
abbrev slices_ContainsFunc_int_int.id : FuncId := 83
abbrev lit_Check_1.id : FuncId := 84
abbrev lit_is.id : FuncId := 85
abbrev heap_Heap_better.id : FuncId := 86
abbrev fathomref01_Lit.id : FuncId := 87
abbrev slices_IndexFunc_int_int.id : FuncId := 88
abbrev ty_int64 : TypeId := 2
theorem ty_int64.und : Try.prog.underlying 2 = some (.int .i64) := by kernel_rfl
theorem ty_int64.info : (Try.prog.info? 2).map (fun i => (i.zero, i.size, i.bytes)) = some (some (.int .i64 0), 1, 8) := by kernel_rfl
abbrev ty_int : TypeId := 3
theorem ty_int.und : Try.prog.underlying 3 = some (.int .i64) := by kernel_rfl
theorem ty_int.info : (Try.prog.info? 3).map (fun i => (i.zero, i.size, i.bytes)) = some (some (.int .i64 0), 1, 8) := by kernel_rfl
abbrev ty_bool : TypeId := 4
theorem ty_bool.und : Try.prog.underlying 4 = some .bool := by kernel_rfl
theorem ty_bool.info : (Try.prog.info? 4).map (fun i => (i.zero, i.size, i.bytes)) = some (some (.bool false), 1, 1) := by kernel_rfl
abbrev ty_uint8 : TypeId := 5
theorem ty_uint8.und : Try.prog.underlying 5 = some (.int .u8) := by kernel_rfl
theorem ty_uint8.info : (Try.prog.info? 5).map (fun i => (i.zero, i.size, i.bytes)) = some (some (.int .u8 0), 1, 1) := by kernel_rfl
abbrev ty_abi_BoundsErrorCode : TypeId := 6
theorem ty_abi_BoundsErrorCode.und : Try.prog.underlying 6 = some (.int .u8) := by kernel_rfl
theorem ty_abi_BoundsErrorCode.info : (Try.prog.info? 6).map (fun i => (i.zero, i.size, i.bytes)) = some (some (.int .u8 0), 1, 1) := by kernel_rfl
abbrev ty_runtime_boundsError : TypeId := 8
theorem ty_runtime_boundsError.info : (Try.prog.info? 8).map (fun i => (i.zero, i.size, i.bytes)) = some (some (.agg #[.int .i64 0, .int .i64 0, .bool false, .int .u8 0]), 4, 24) := by kernel_rfl
abbrev ty_uintptr : TypeId := 12
theorem ty_uintptr.und : Try.prog.underlying 12 = some (.int .u64) := by kernel_rfl
theorem ty_uintptr.info : (Try.prog.info? 12).map (fun i => (i.zero, i.size, i.bytes)) = some (some (.int .u64 0), 1, 8) := by kernel_rfl
abbrev ty_runtime_errorAddressString : TypeId := 14
theorem ty_runtime_errorAddressString.info : (Try.prog.info? 14).map (fun i => (i.zero, i.size, i.bytes)) = some (some (.agg #[.string (ByteArray.mk #[]), .int .u64 0]), 2, 24) := by kernel_rfl
abbrev ty_p_runtime_TypeAssertionError : TypeId := 15
theorem ty_p_runtime_TypeAssertionError.info : (Try.prog.info? 15).map (fun i => (i.zero, i.size, i.bytes)) = some (some (.pointer none), 1, 8) := by kernel_rfl
abbrev ty_p_runtime_PanicNilError : TypeId := 16
theorem ty_p_runtime_PanicNilError.info : (Try.prog.info? 16).map (fun i => (i.zero, i.size, i.bytes)) = some (some (.pointer none), 1, 8) := by kernel_rfl
abbrev ty_p_abi_Type : TypeId := 17
theorem ty_p_abi_Type.info : (Try.prog.info? 17).map (fun i => (i.zero, i.size, i.bytes)) = some (some (.pointer none), 1, 8) := by kernel_rfl
abbrev ty_maps_unhashableTypeError : TypeId := 19
theorem ty_maps_unhashableTypeError.info : (Try.prog.info? 19).map (fun i => (i.zero, i.size, i.bytes)) = some (some (.agg #[.pointer none]), 1, 8) := by kernel_rfl
abbrev ty_int32 : TypeId := 21
theorem ty_int32.und : Try.prog.underlying 21 = some (.int .i32) := by kernel_rfl
theorem ty_int32.info : (Try.prog.info? 21).map (fun i => (i.zero, i.size, i.bytes)) = some (some (.int .i32 0), 1, 4) := by kernel_rfl
abbrev ty_api_Errno : TypeId := 22
theorem ty_api_Errno.und : Try.prog.underlying 22 = some (.int .i64) := by kernel_rfl
theorem ty_api_Errno.info : (Try.prog.info? 22).map (fun i => (i.zero, i.size, i.bytes)) = some (some (.int .i64 0), 1, 8) := by kernel_rfl
abbrev ty_api_Pace : TypeId := 30
theorem ty_api_Pace.info : (Try.prog.info? 30).map (fun i => (i.zero, i.size, i.bytes)) = some (some (.agg #[.int .i64 0, .int .i64 0, .int .i64 0]), 3, 24) := by kernel_rfl
abbrev ty_sl_fathomlaw02_Act : TypeId := 40
theorem ty_sl_fathomlaw02_Act.und : Try.prog.underlying 40 = some (.slice 61) := by kernel_rfl
theorem ty_sl_fathomlaw02_Act.info : (Try.prog.info? 40).map (fun i => (i.zero, i.size, i.bytes)) = some (some (.slice none 0 0), 1, 24) := by kernel_rfl
abbrev ty_p_arena_Arena : TypeId := 42
theorem ty_p_arena_Arena.info : (Try.prog.info? 42).map (fun i => (i.zero, i.size, i.bytes)) = some (some (.pointer none), 1, 8) := by kernel_rfl
abbrev ty_sl_fathomref02_Item : TypeId := 43
theorem ty_sl_fathomref02_Item.und : Try.prog.underlying 43 = some (.slice 105) := by kernel_rfl
theorem ty_sl_fathomref02_Item.info : (Try.prog.info? 43).map (fun i => (i.zero, i.size, i.bytes)) = some (some (.slice none 0 0), 1, 24) := by kernel_rfl
abbrev ty_fathomref02_Arena : TypeId := 45
theorem ty_fathomref02_Arena.info : (Try.prog.info? 45).map (fun i => (i.zero, i.size, i.bytes)) = some (some (.agg #[.slice none 0 0]), 1, 24) := by kernel_rfl
abbrev ty_sl_int : TypeId := 49
theorem ty_sl_int.und : Try.prog.underlying 49 = some (.slice 3) := by kernel_rfl
theorem ty_sl_int.info : (Try.prog.info? 49).map (fun i => (i.zero, i.size, i.bytes)) = some (some (.slice none 0 0), 1, 24) := by kernel_rfl
abbrev ty_sl_api_Move : TypeId := 56
theorem ty_sl_api_Move.und : Try.prog.underlying 56 = some (.slice 59) := by kernel_rfl
theorem ty_sl_api_Move.info : (Try.prog.info? 56).map (fun i => (i.zero, i.size, i.bytes)) = some (some (.slice none 0 0), 1, 24) := by kernel_rfl
abbrev ty_api_Move : TypeId := 59
theorem ty_api_Move.info : (Try.prog.info? 59).map (fun i => (i.zero, i.size, i.bytes)) = some (some (.agg #[.int .i64 0, .int .i64 0]), 2, 16) := by kernel_rfl
abbrev ty_fathomlaw02_Act : TypeId := 61
theorem ty_fathomlaw02_Act.info : (Try.prog.info? 61).map (fun i => (i.zero, i.size, i.bytes)) = some (some (.agg #[.int .i64 0, .slice none 0 0, .int .i64 0, .int .i64 0, .int .i64 0]), 5, 56) := by kernel_rfl
abbrev ty_map_int_bool : TypeId := 62
theorem ty_map_int_bool.und : Try.prog.underlying 62 = some (.map 3 4) := by kernel_rfl
theorem ty_map_int_bool.info : (Try.prog.info? 62).map (fun i => (i.zero, i.size, i.bytes)) = some (some (.map none), 1, 8) := by kernel_rfl
abbrev ty_arena_Arena : TypeId := 64
theorem ty_arena_Arena.info : (Try.prog.info? 64).map (fun i => (i.zero, i.size, i.bytes)) = some (some (.agg #[.bool false, .slice none 0 0, .map none, .int .i64 0, .int .i64 0]), 5, 56) := by kernel_rfl
abbrev ty_sl_fathomlaw09_Act : TypeId := 70
theorem ty_sl_fathomlaw09_Act.und : Try.prog.underlying 70 = some (.slice 109) := by kernel_rfl
theorem ty_sl_fathomlaw09_Act.info : (Try.prog.info? 70).map (fun i => (i.zero, i.size, i.bytes)) = some (some (.slice none 0 0), 1, 24) := by kernel_rfl
abbrev ty_p_heap_Heap : TypeId := 71
theorem ty_p_heap_Heap.info : (Try.prog.info? 71).map (fun i => (i.zero, i.size, i.bytes)) = some (some (.pointer none), 1, 8) := by kernel_rfl
abbrev ty_sl_bool : TypeId := 72
theorem ty_sl_bool.und : Try.prog.underlying 72 = some (.slice 4) := by kernel_rfl
theorem ty_sl_bool.info : (Try.prog.info? 72).map (fun i => (i.zero, i.size, i.bytes)) = some (some (.slice none 0 0), 1, 24) := by kernel_rfl
abbrev ty_fathomref09_Heap : TypeId := 74
theorem ty_fathomref09_Heap.info : (Try.prog.info? 74).map (fun i => (i.zero, i.size, i.bytes)) = some (some (.agg #[.slice none 0 0, .slice none 0 0, .int .i64 0]), 3, 56) := by kernel_rfl
abbrev ty_heap_Heap : TypeId := 89
theorem ty_heap_Heap.info : (Try.prog.info? 89).map (fun i => (i.zero, i.size, i.bytes)) = some (some (.agg #[.slice none 0 0, .slice none 0 0, .slice none 0 0, .int .i64 0]), 4, 80) := by kernel_rfl
abbrev ty_uint : TypeId := 91
theorem ty_uint.und : Try.prog.underlying 91 = some (.int .u64) := by kernel_rfl
theorem ty_uint.info : (Try.prog.info? 91).map (fun i => (i.zero, i.size, i.bytes)) = some (some (.int .u64 0), 1, 8) := by kernel_rfl
abbrev ty_fathomref02_Item : TypeId := 105
theorem ty_fathomref02_Item.info : (Try.prog.info? 105).map (fun i => (i.zero, i.size, i.bytes)) = some (some (.agg #[.slice none 0 0, .bool false]), 2, 32) := by kernel_rfl
abbrev ty_fathomlaw09_Act : TypeId := 109
theorem ty_fathomlaw09_Act.info : (Try.prog.info? 109).map (fun i => (i.zero, i.size, i.bytes)) = some (some (.agg #[.int .i64 0, .int .i64 0, .int .i64 0]), 3, 24) := by kernel_rfl
abbrev ty_uint32 : TypeId := 114
theorem ty_uint32.und : Try.prog.underlying 114 = some (.int .u32) := by kernel_rfl
theorem ty_uint32.info : (Try.prog.info? 114).map (fun i => (i.zero, i.size, i.bytes)) = some (some (.int .u32 0), 1, 4) := by kernel_rfl
abbrev ty_uint64 : TypeId := 116
theorem ty_uint64.und : Try.prog.underlying 116 = some (.int .u64) := by kernel_rfl
theorem ty_uint64.info : (Try.prog.info? 116).map (fun i => (i.zero, i.size, i.bytes)) = some (some (.int .u64 0), 1, 8) := by kernel_rfl
abbrev ty_runtime_TypeAssertionError : TypeId := 122
theorem ty_runtime_TypeAssertionError.info : (Try.prog.info? 122).map (fun i => (i.zero, i.size, i.bytes)) = some (some (.agg #[.pointer none, .pointer none, .pointer none, .string (ByteArray.mk #[])]), 4, 40) := by kernel_rfl
abbrev ty_runtime_PanicNilError : TypeId := 125
theorem ty_runtime_PanicNilError.info : (Try.prog.info? 125).map (fun i => (i.zero, i.size, i.bytes)) = some (some (.agg #[]), 0, 0) := by kernel_rfl
abbrev ty_abi_TFlag : TypeId := 126
theorem ty_abi_TFlag.und : Try.prog.underlying 126 = some (.int .u8) := by kernel_rfl
theorem ty_abi_TFlag.info : (Try.prog.info? 126).map (fun i => (i.zero, i.size, i.bytes)) = some (some (.int .u8 0), 1, 1) := by kernel_rfl
abbrev ty_abi_Kind : TypeId := 127
theorem ty_abi_Kind.und : Try.prog.underlying 127 = some (.int .u8) := by kernel_rfl
theorem ty_abi_Kind.info : (Try.prog.info? 127).map (fun i => (i.zero, i.size, i.bytes)) = some (some (.int .u8 0), 1, 1) := by kernel_rfl
abbrev ty_p_uint8 : TypeId := 129
theorem ty_p_uint8.info : (Try.prog.info? 129).map (fun i => (i.zero, i.size, i.bytes)) = some (some (.pointer none), 1, 8) := by kernel_rfl
abbrev ty_abi_NameOff : TypeId := 130
theorem ty_abi_NameOff.und : Try.prog.underlying 130 = some (.int .i32) := by kernel_rfl
theorem ty_abi_NameOff.info : (Try.prog.info? 130).map (fun i => (i.zero, i.size, i.bytes)) = some (some (.int .i32 0), 1, 4) := by kernel_rfl
abbrev ty_abi_TypeOff : TypeId := 131
theorem ty_abi_TypeOff.und : Try.prog.underlying 131 = some (.int .i32) := by kernel_rfl
theorem ty_abi_TypeOff.info : (Try.prog.info? 131).map (fun i => (i.zero, i.size, i.bytes)) = some (some (.int .i32 0), 1, 4) := by kernel_rfl
abbrev ty_abi_Type : TypeId := 133
theorem ty_abi_Type.info : (Try.prog.info? 133).map (fun i => (i.zero, i.size, i.bytes)) = some (some (.agg #[.int .u64 0, .int .u64 0, .int .u32 0, .int .u8 0, .int .u8 0, .int .u8 0, .int .u8 0, .nilFunc, .pointer none, .int .i32 0, .int .i32 0]), 11, 48) := by kernel_rfl

/-! ### fathom/fathomlaw09.HeapOrders: function 11 (named slots 14) -/
def fathomlaw09_HeapOrders.w (n_ : Int) (l__p : Option Addr) (l__n : Nat) (l__c : Nat) (w : World) (K : Value → World → Prop) : Prop :=
  (20 : Int) ≠ 0 ∧ Calls Try.prog 41 #[.int .i64 (IntKind.i64.wrap (n_.tmod (20 : Int))), .slice l__p l__n l__c] w fun e w1 => ∃ r2 : Option Addr, ∃ r3_p : Option Addr, ∃ r3_n : Nat, ∃ r3_c : Nat, ∃ r4_p : Option Addr, ∃ r4_n : Nat, ∃ r4_c : Nat, ∃ r5 : Int, ∃ r6 : Bool, e = .returned (.tuple #[.pointer r2, .agg #[.slice r3_p r3_n r3_c, .slice r4_p r4_n r4_c, .int .i64 r5], .bool r6]) ∧ 
  ∀ (n7 : Nat) (w8 : World), New (.cells #[.slice none 0 0, .slice none 0 0, .int .i64 0] 74) w1 n7 w8 → 
  ∃ w9 : World, StoreAt (Addr.mk n7 0 none) 0 [.slice r3_p r3_n r3_c, .slice r4_p r4_n r4_c, .int .i64 r5] w8 w9 ∧ 
  cnd (!r6)
  (K (.bool false) w9)
  (∃ x10_p : Option Addr, ∃ x10_n : Nat, ∃ x10_c : Nat, ∃ x11_p : Option Addr, ∃ x11_n : Nat, ∃ x11_c : Nat, ∃ x12 : Int, CellsAt w9 (Addr.mk n7 0 none) 0 [.slice x10_p x10_n x10_c, .slice x11_p x11_n x11_c, .int .i64 x12] ∧ 
    Calls Try.prog 42 #[.agg #[.slice x10_p x10_n x10_c, .slice x11_p x11_n x11_c, .int .i64 x12]] w9 fun e w13 => ∃ r14 : Int, e = .returned (.int .i64 r14) ∧ 
    ∃ I15 : Int → Int → World → Nat → Prop, (∃ k16, I15 0 r14 w13 k16) ∧
    ∀ (last_18 : Int) (i_19 : Int) (w20 : World) (k16 : Nat) (_ : Fr), I15 last_18 i_19 w20 k16 →
    cnd (decide (i_19 > (0 : Int)))
      (Calls Try.prog 43 #[.pointer r2] w20 fun e w21 => ∃ r22 : Int, ∃ r23 : Bool, e = .returned (.tuple #[.int .i64 r22, .bool r23]) ∧ 
        cnd (!r23)
        (K (.bool false) w21)
        (cnd (decide (r22 < (1 : Int)))
        (K (.bool false) w21)
        (∃ x24_p : Option Addr, ∃ x24_n : Nat, ∃ x24_c : Nat, w21.cell? ((Addr.mk n7 0 none).add 0) = some (.slice x24_p x24_n x24_c) ∧ 
        cnd (decide (r22 ≥ (x24_n : Int)))
        (K (.bool false) w21)
        (∃ x25_p : Option Addr, ∃ x25_n : Nat, ∃ x25_c : Nat, w21.cell? ((Addr.mk n7 0 none).add 0) = some (.slice x25_p x25_n x25_c) ∧ 
        ixK x25_p x25_n r22 1 fun a26 =>
        ∃ x27 : Bool, w21.cell? a26 = some (.bool x27) ∧ 
        cnd (!x27)
        (K (.bool false) w21)
        (cnd (decide (last_18 > (0 : Int)))
          (∃ x28_p : Option Addr, ∃ x28_n : Nat, ∃ x28_c : Nat, w21.drew.cell? ((Addr.mk n7 0 none).add 1) = some (.slice x28_p x28_n x28_c) ∧ 
          ixK x28_p x28_n last_18 1 fun a29 =>
          ∃ x30 : Int, w21.drew.cell? a29 = some (.int .i64 x30) ∧ 
          ∃ x31_p : Option Addr, ∃ x31_n : Nat, ∃ x31_c : Nat, w21.drew.cell? ((Addr.mk n7 0 none).add 1) = some (.slice x31_p x31_n x31_c) ∧ 
          ixK x31_p x31_n r22 1 fun a32 =>
          ∃ x33 : Int, w21.drew.cell? a32 = some (.int .i64 x33) ∧ 
          cnd (decide (x30 < x33))
          (K (.bool false) w21.drew)
          (∃ x34_p : Option Addr, ∃ x34_n : Nat, ∃ x34_c : Nat, w21.drew.cell? ((Addr.mk n7 0 none).add 1) = some (.slice x34_p x34_n x34_c) ∧ 
          ixK x34_p x34_n last_18 1 fun a35 =>
          ∃ x36 : Int, w21.drew.cell? a35 = some (.int .i64 x36) ∧ 
          ∃ x37_p : Option Addr, ∃ x37_n : Nat, ∃ x37_c : Nat, w21.drew.cell? ((Addr.mk n7 0 none).add 1) = some (.slice x37_p x37_n x37_c) ∧ 
          ixK x37_p x37_n r22 1 fun a38 =>
          ∃ x39 : Int, w21.drew.cell? a38 = some (.int .i64 x39) ∧ 
          cnd (x36 == x39)
          (cnd (decide (last_18 > r22))
          (K (.bool false) w21.drew)
          (∃ x40_p : Option Addr, ∃ x40_n : Nat, ∃ x40_c : Nat, ∃ x41_p : Option Addr, ∃ x41_n : Nat, ∃ x41_c : Nat, ∃ x42 : Int, CellsAt w21.drew (Addr.mk n7 0 none) 0 [.slice x40_p x40_n x40_c, .slice x41_p x41_n x41_c, .int .i64 x42] ∧ 
            Calls Try.prog 44 #[.agg #[.slice x40_p x40_n x40_c, .slice x41_p x41_n x41_c, .int .i64 x42], .int .i64 r22, .bool false] w21.drew fun e w43 => ∃ r44_p : Option Addr, ∃ r44_n : Nat, ∃ r44_c : Nat, ∃ r45_p : Option Addr, ∃ r45_n : Nat, ∃ r45_c : Nat, ∃ r46 : Int, e = .returned (.agg #[.slice r44_p r44_n r44_c, .slice r45_p r45_n r45_c, .int .i64 r46]) ∧ 
            ∃ w47 : World, StoreAt (Addr.mk n7 0 none) 0 [.slice r44_p r44_n r44_c, .slice r45_p r45_n r45_c, .int .i64 r46] w43 w47 ∧ 
            ∃ k17, k17 < k16 ∧ I15 r22 (IntKind.i64.wrap (i_19 - (1 : Int))) w47 k17))
          (∃ x48_p : Option Addr, ∃ x48_n : Nat, ∃ x48_c : Nat, ∃ x49_p : Option Addr, ∃ x49_n : Nat, ∃ x49_c : Nat, ∃ x50 : Int, CellsAt w21.drew (Addr.mk n7 0 none) 0 [.slice x48_p x48_n x48_c, .slice x49_p x49_n x49_c, .int .i64 x50] ∧ 
          Calls Try.prog 44 #[.agg #[.slice x48_p x48_n x48_c, .slice x49_p x49_n x49_c, .int .i64 x50], .int .i64 r22, .bool false] w21.drew fun e w51 => ∃ r52_p : Option Addr, ∃ r52_n : Nat, ∃ r52_c : Nat, ∃ r53_p : Option Addr, ∃ r53_n : Nat, ∃ r53_c : Nat, ∃ r54 : Int, e = .returned (.agg #[.slice r52_p r52_n r52_c, .slice r53_p r53_n r53_c, .int .i64 r54]) ∧ 
          ∃ w55 : World, StoreAt (Addr.mk n7 0 none) 0 [.slice r52_p r52_n r52_c, .slice r53_p r53_n r53_c, .int .i64 r54] w51 w55 ∧ 
          ∃ k17, k17 < k16 ∧ I15 r22 (IntKind.i64.wrap (i_19 - (1 : Int))) w55 k17)))
          (∃ x56_p : Option Addr, ∃ x56_n : Nat, ∃ x56_c : Nat, ∃ x57_p : Option Addr, ∃ x57_n : Nat, ∃ x57_c : Nat, ∃ x58 : Int, CellsAt w21.drew (Addr.mk n7 0 none) 0 [.slice x56_p x56_n x56_c, .slice x57_p x57_n x57_c, .int .i64 x58] ∧ 
          Calls Try.prog 44 #[.agg #[.slice x56_p x56_n x56_c, .slice x57_p x57_n x57_c, .int .i64 x58], .int .i64 r22, .bool false] w21.drew fun e w59 => ∃ r60_p : Option Addr, ∃ r60_n : Nat, ∃ r60_c : Nat, ∃ r61_p : Option Addr, ∃ r61_n : Nat, ∃ r61_c : Nat, ∃ r62 : Int, e = .returned (.agg #[.slice r60_p r60_n r60_c, .slice r61_p r61_n r61_c, .int .i64 r62]) ∧ 
          ∃ w63 : World, StoreAt (Addr.mk n7 0 none) 0 [.slice r60_p r60_n r60_c, .slice r61_p r61_n r61_c, .int .i64 r62] w59 w63 ∧ 
          ∃ k17, k17 < k16 ∧ I15 r22 (IntKind.i64.wrap (i_19 - (1 : Int))) w63 k17))))))
      (Calls Try.prog 43 #[.pointer r2] w20 fun e w64 => ∃ r65 : Int, ∃ r66 : Bool, e = .returned (.tuple #[.int .i64 r65, .bool r66]) ∧ 
        cnd (!r66)
        (Calls Try.prog 45 #[.pointer r2] w64 fun e w67 => ∃ r68 : Int, e = .returned (.int .i64 r68) ∧ 
        cnd (r68 == (0 : Int))
        (Calls Try.prog 46 #[] w67 fun e w69 => ∃ r70 : Bool, e = .returned (.bool r70) ∧ 
        K (.bool r70) w69)
        (K (.bool false) w67))
        (K (.bool false) w64)))
theorem fathomlaw09_HeapOrders.eq (n_ : Int) (l__p : Option Addr) (l__n : Nat) (l__c : Nat) (w : World) (K : Value → World → Prop) : wpF Try.prog Try.f11 (.two .leaf (.two .leaf (.two .leaf (.two .leaf (.two (.two .leaf (.one (.loop [(8, 3), (9, 3)] .leaf))) .leaf))))) [.int .u8 n_, .slice l__p l__n l__c] w K = fathomlaw09_HeapOrders.w n_ l__p l__n l__c w K := by kernel_rfl
theorem fathomlaw09_HeapOrders.ok : fnOk Try.prog Try.f11 2 = true := by kernel_rfl
theorem fathomlaw09_HeapOrders.calls {n_ : Int} {l__p : Option Addr} {l__n : Nat} {l__c : Nat} {w : World} {R : Ending → World → Prop} (h : fathomlaw09_HeapOrders.w n_ l__p l__n l__c w fun v w' => R (.returned v) w') : Calls Try.prog 11 #[.int .u8 n_, .slice l__p l__n l__c] w R :=
  calls_of mixed Try.func11 fathomlaw09_HeapOrders.ok rfl (fun K => fathomlaw09_HeapOrders.eq n_ l__p l__n l__c w K) h

/-! ### fathom/fathomlaw09.HeapActs: function 12 (named slots 8) -/
def fathomlaw09_HeapActs.w (n_ : Int) (l__p : Option Addr) (l__n : Nat) (l__c : Nat) (w : World) (K : Value → World → Prop) : Prop :=
  (20 : Int) ≠ 0 ∧ Calls Try.prog 41 #[.int .i64 (IntKind.i64.wrap (n_.tmod (20 : Int))), .slice l__p l__n l__c] w fun e w1 => ∃ r2 : Option Addr, ∃ r3_p : Option Addr, ∃ r3_n : Nat, ∃ r3_c : Nat, ∃ r4_p : Option Addr, ∃ r4_n : Nat, ∃ r4_c : Nat, ∃ r5 : Int, ∃ r6 : Bool, e = .returned (.tuple #[.pointer r2, .agg #[.slice r3_p r3_n r3_c, .slice r4_p r4_n r4_c, .int .i64 r5], .bool r6]) ∧ 
  ∀ (n7 : Nat) (w8 : World), New (.cells #[.slice none 0 0, .slice none 0 0, .int .i64 0] 74) w1 n7 w8 → 
  ∃ w9 : World, StoreAt (Addr.mk n7 0 none) 0 [.slice r3_p r3_n r3_c, .slice r4_p r4_n r4_c, .int .i64 r5] w8 w9 ∧ 
  cnd r6
  (∃ x10_p : Option Addr, ∃ x10_n : Nat, ∃ x10_c : Nat, ∃ x11_p : Option Addr, ∃ x11_n : Nat, ∃ x11_c : Nat, ∃ x12 : Int, CellsAt w9 (Addr.mk n7 0 none) 0 [.slice x10_p x10_n x10_c, .slice x11_p x11_n x11_c, .int .i64 x12] ∧ 
  Calls Try.prog 47 #[.pointer r2, .agg #[.slice x10_p x10_n x10_c, .slice x11_p x11_n x11_c, .int .i64 x12]] w9 fun e w13 => ∃ r14 : Bool, e = .returned (.bool r14) ∧ 
  cnd r14
  (Calls Try.prog 46 #[] w13 fun e w15 => ∃ r16 : Bool, e = .returned (.bool r16) ∧ 
  K (.bool r16) w15)
  (K (.bool false) w13))
  (K (.bool false) w9)
theorem fathomlaw09_HeapActs.eq (n_ : Int) (l__p : Option Addr) (l__n : Nat) (l__c : Nat) (w : World) (K : Value → World → Prop) : wpF Try.prog Try.f12 .leaf [.int .u8 n_, .slice l__p l__n l__c] w K = fathomlaw09_HeapActs.w n_ l__p l__n l__c w K := by kernel_rfl
theorem fathomlaw09_HeapActs.ok : fnOk Try.prog Try.f12 2 = true := by kernel_rfl
theorem fathomlaw09_HeapActs.calls {n_ : Int} {l__p : Option Addr} {l__n : Nat} {l__c : Nat} {w : World} {R : Ending → World → Prop} (h : fathomlaw09_HeapActs.w n_ l__p l__n l__c w fun v w' => R (.returned v) w') : Calls Try.prog 12 #[.int .u8 n_, .slice l__p l__n l__c] w R :=
  calls_of mixed Try.func12 fathomlaw09_HeapActs.ok rfl (fun K => fathomlaw09_HeapActs.eq n_ l__p l__n l__c w K) h

/-! ### fathom/fathomlaw09.HeapScales: function 13 (named slots 14) -/
def fathomlaw09_HeapScales.w (l__p : Option Addr) (l__n : Nat) (l__c : Nat) (x1_ : Int) (y_ : Int) (w : World) (K : Value → World → Prop) : Prop :=
  Calls Try.prog 41 #[.int .i64 5, .slice l__p l__n l__c] w fun e w1 => ∃ r2 : Option Addr, ∃ r3_p : Option Addr, ∃ r3_n : Nat, ∃ r3_c : Nat, ∃ r4_p : Option Addr, ∃ r4_n : Nat, ∃ r4_c : Nat, ∃ r5 : Int, ∃ r6 : Bool, e = .returned (.tuple #[.pointer r2, .agg #[.slice r3_p r3_n r3_c, .slice r4_p r4_n r4_c, .int .i64 r5], .bool r6]) ∧ 
  ∀ (n7 : Nat) (w8 : World), New (.cells #[.slice none 0 0, .slice none 0 0, .int .i64 0] 74) w1 n7 w8 → 
  ∃ w9 : World, StoreAt (Addr.mk n7 0 none) 0 [.slice r3_p r3_n r3_c, .slice r4_p r4_n r4_c, .int .i64 r5] w8 w9 ∧ 
  (5 : Int) ≠ 0 ∧ (5 : Int) ≠ 0 ∧ cnd (!r6)
  (K (.bool false) w9)
  (Calls Try.prog 48 #[.pointer r2, .int .i64 (IntKind.i64.wrap ((1 : Int) + (IntKind.i64.wrap (x1_.tmod (5 : Int)))))] w9 fun e w10 => ∃ r11 : Int, e = .returned (.int .i64 r11) ∧ 
    Calls Try.prog 48 #[.pointer r2, .int .i64 (IntKind.i64.wrap ((1 : Int) + (IntKind.i64.wrap (y_.tmod (5 : Int)))))] w10 fun e w12 => ∃ r13 : Int, e = .returned (.int .i64 r13) ∧ 
    ∃ I14 : Int → World → Nat → Prop, (∃ k15, I14 0 w12 k15) ∧
    ∀ (k_17 : Int) (w18 : World) (k15 : Nat) (_ : Fr), I14 k_17 w18 k15 →
    cnd (decide (k_17 < (300 : Int)))
      (Calls Try.prog 49 #[.pointer r2] w18 fun e w19 => e = .returned (.tuple #[]) ∧ 
        ∃ x20_p : Option Addr, ∃ x20_n : Nat, ∃ x20_c : Nat, ∃ x21_p : Option Addr, ∃ x21_n : Nat, ∃ x21_c : Nat, ∃ x22 : Int, CellsAt w19 (Addr.mk n7 0 none) 0 [.slice x20_p x20_n x20_c, .slice x21_p x21_n x21_c, .int .i64 x22] ∧ 
        Calls Try.prog 50 #[.agg #[.slice x20_p x20_n x20_c, .slice x21_p x21_n x21_c, .int .i64 x22]] w19 fun e w23 => ∃ r24_p : Option Addr, ∃ r24_n : Nat, ∃ r24_c : Nat, ∃ r25_p : Option Addr, ∃ r25_n : Nat, ∃ r25_c : Nat, ∃ r26 : Int, e = .returned (.agg #[.slice r24_p r24_n r24_c, .slice r25_p r25_n r25_c, .int .i64 r26]) ∧ 
        ∃ w27 : World, StoreAt (Addr.mk n7 0 none) 0 [.slice r24_p r24_n r24_c, .slice r25_p r25_n r25_c, .int .i64 r26] w23 w27 ∧ 
        cnd (decide (r11 > r13))
        (Calls Try.prog 48 #[.pointer r2, .int .i64 (IntKind.i64.wrap ((1 : Int) + (IntKind.i64.wrap (x1_.tmod (5 : Int)))))] w27 fun e w28 => ∃ r29 : Int, e = .returned (.int .i64 r29) ∧ 
        Calls Try.prog 48 #[.pointer r2, .int .i64 (IntKind.i64.wrap ((1 : Int) + (IntKind.i64.wrap (y_.tmod (5 : Int)))))] w28 fun e w30 => ∃ r31 : Int, e = .returned (.int .i64 r31) ∧ 
        cnd (decide (r29 < r31))
        (K (.bool false) w30)
        (Calls Try.prog 51 #[.pointer r2] w30 fun e w32 => ∃ r33 : Int, e = .returned (.int .i64 r33) ∧ 
        cnd (decide (r33 > (2199023255552 : Int)))
        (K (.bool false) w32)
        (Calls Try.prog 48 #[.pointer r2, .int .i64 (IntKind.i64.wrap ((1 : Int) + (IntKind.i64.wrap (x1_.tmod (5 : Int)))))] w32 fun e w34 => ∃ r35 : Int, e = .returned (.int .i64 r35) ∧ 
        cnd (decide (r35 > (2199023255552 : Int)))
        (K (.bool false) w34)
        (∃ k16, k16 < k15 ∧ I14 (IntKind.i64.wrap (k_17 + (1 : Int))) w34 k16))))
        (Calls Try.prog 51 #[.pointer r2] w27 fun e w36 => ∃ r37 : Int, e = .returned (.int .i64 r37) ∧ 
        cnd (decide (r37 > (2199023255552 : Int)))
        (K (.bool false) w36)
        (Calls Try.prog 48 #[.pointer r2, .int .i64 (IntKind.i64.wrap ((1 : Int) + (IntKind.i64.wrap (x1_.tmod (5 : Int)))))] w36 fun e w38 => ∃ r39 : Int, e = .returned (.int .i64 r39) ∧ 
        cnd (decide (r39 > (2199023255552 : Int)))
        (K (.bool false) w38)
        (∃ k16, k16 < k15 ∧ I14 (IntKind.i64.wrap (k_17 + (1 : Int))) w38 k16))))
      (∃ x40_p : Option Addr, ∃ x40_n : Nat, ∃ x40_c : Nat, ∃ x41_p : Option Addr, ∃ x41_n : Nat, ∃ x41_c : Nat, ∃ x42 : Int, CellsAt w18 (Addr.mk n7 0 none) 0 [.slice x40_p x40_n x40_c, .slice x41_p x41_n x41_c, .int .i64 x42] ∧ 
        Calls Try.prog 47 #[.pointer r2, .agg #[.slice x40_p x40_n x40_c, .slice x41_p x41_n x41_c, .int .i64 x42]] w18 fun e w43 => ∃ r44 : Bool, e = .returned (.bool r44) ∧ 
        cnd r44
        (Calls Try.prog 46 #[] w43 fun e w45 => ∃ r46 : Bool, e = .returned (.bool r46) ∧ 
        K (.bool r46) w45)
        (K (.bool false) w43)))
theorem fathomlaw09_HeapScales.eq (l__p : Option Addr) (l__n : Nat) (l__c : Nat) (x1_ : Int) (y_ : Int) (w : World) (K : Value → World → Prop) : wpF Try.prog Try.f13 (.two .leaf (.two .leaf (.two .leaf (.two .leaf (.two .leaf (.two (.two .leaf (.one (.loop [(13, 3)] .leaf))) .leaf)))))) [.slice l__p l__n l__c, .int .u8 x1_, .int .u8 y_] w K = fathomlaw09_HeapScales.w l__p l__n l__c x1_ y_ w K := by kernel_rfl
theorem fathomlaw09_HeapScales.ok : fnOk Try.prog Try.f13 3 = true := by kernel_rfl
theorem fathomlaw09_HeapScales.calls {l__p : Option Addr} {l__n : Nat} {l__c : Nat} {x1_ : Int} {y_ : Int} {w : World} {R : Ending → World → Prop} (h : fathomlaw09_HeapScales.w l__p l__n l__c x1_ y_ w fun v w' => R (.returned v) w') : Calls Try.prog 13 #[.slice l__p l__n l__c, .int .u8 x1_, .int .u8 y_] w R :=
  calls_of mixed Try.func13 fathomlaw09_HeapScales.ok rfl (fun K => fathomlaw09_HeapScales.eq l__p l__n l__c x1_ y_ w K) h

/-! ### fathom/fathomlaw09.HeapNew: function 14 (named slots 13) cuts [(3, 127), (4, 76), (2, 62)] -/
def fathomlaw09_HeapNew.w (n_ : Int) (v_ : Int) (w : World) (K : Value → World → Prop) : Prop :=
  ∃ J1 : Int → World → Prop, (cnd (decide (n_ > (5000 : Int)))
  (cnd (decide (n_ ≤ (1048576 : Int)))
  (J1 5000 w)
  (J1 n_ w))
  (J1 n_ w)) ∧
  ∀ (n_2 : Int) (w3 : World) (_ : Fr), J1 n_2 w3 → 
  Calls Try.prog 52 #[.int .i64 n_2] w3 fun e w4 => ∃ r5 : Option Addr, ∃ r6 : Int, e = .returned (.tuple #[.pointer r5, .int .i64 r6]) ∧ 
  ∃ J7 : World → Prop, (cnd (decide (n_2 < (0 : Int)))
  (cnd (r6 != (1 : Int))
  (K (.bool false) w4)
  (cnd (!r5.isNone)
  (K (.bool false) w4)
  (J7 w4)))
  (cnd (decide (n_2 > (1048576 : Int)))
  (cnd (r6 != (1 : Int))
    (K (.bool false) w4)
    (cnd (!r5.isNone)
    (K (.bool false) w4)
    (J7 w4)))
  (cnd (r6 != (0 : Int))
    (K (.bool false) w4)
    (cnd r5.isNone
    (K (.bool false) w4)
    (Calls Try.prog 45 #[.pointer r5] w4 fun e w8 => ∃ r9 : Int, e = .returned (.int .i64 r9) ∧ 
    cnd (r9 != n_2)
    (K (.bool false) w8)
    (Calls Try.prog 51 #[.pointer r5] w8 fun e w10 => ∃ r11 : Int, e = .returned (.int .i64 r11) ∧ 
    cnd (r11 != (64 : Int))
    (K (.bool false) w10)
    (Calls Try.prog 53 #[.pointer r5, .int .i64 v_] w10 fun e w12 => ∃ r13 : Bool, e = .returned (.bool r13) ∧ 
    cnd (decide (v_ ≥ (1 : Int)))
    (cnd (!(r13 == (decide (v_ ≤ n_2))))
    (K (.bool false) w12)
    (J7 w12))
    (cnd (!(r13 == false))
    (K (.bool false) w12)
    (J7 w12))))))))) ∧
  ∀ (w14 : World) (_ : Fr), J7 w14 → 
  ∃ I15 : Int → World → Nat → Prop, (∃ k16, I15 0 w14 k16) ∧
  ∀ (k_18 : Int) (w19 : World) (k16 : Nat) (_ : Fr), I15 k_18 w19 k16 →
  cnd (decide (k_18 < (2 : Int)))
    (∃ J20 : Option Addr → World → Prop, (cnd (k_18 == (1 : Int))
      (∀ (n21 : Nat) (w22 : World), New (.cells #[.slice none 0 0, .slice none 0 0, .slice none 0 0, .int .i64 0] 89) w19 n21 w22 → 
        J20 (some (Addr.mk n21 0 none)) w22)
      (J20 none w19)) ∧
      ∀ (z_23 : Option Addr) (w24 : World) (_ : Fr), J20 z_23 w24 → 
      Calls Try.prog 49 #[.pointer z_23] w24 fun e w25 => e = .returned (.tuple #[]) ∧ 
      Calls Try.prog 54 #[.pointer z_23] w25 fun e w26 => ∃ r27 : Int, ∃ r28 : Bool, e = .returned (.tuple #[.int .i64 r27, .bool r28]) ∧ 
      Calls Try.prog 43 #[.pointer z_23] w26 fun e w29 => ∃ r30 : Int, ∃ r31 : Bool, e = .returned (.tuple #[.int .i64 r30, .bool r31]) ∧ 
      cnd r28
      (K (.bool false) w29)
      (cnd r31
      (K (.bool false) w29)
      (cnd (r27 != (0 : Int))
      (K (.bool false) w29)
      (cnd (r30 != (0 : Int))
      (K (.bool false) w29)
      (Calls Try.prog 55 #[.pointer z_23, .int .i64 v_] w29 fun e w32 => ∃ r33 : Int, e = .returned (.int .i64 r33) ∧ 
      cnd (r33 != (1 : Int))
      (K (.bool false) w32)
      (Calls Try.prog 56 #[.pointer z_23, .int .i64 v_] w32 fun e w34 => ∃ r35 : Int, e = .returned (.int .i64 r35) ∧ 
      cnd (r35 != (1 : Int))
      (K (.bool false) w34)
      (Calls Try.prog 53 #[.pointer z_23, .int .i64 v_] w34 fun e w36 => ∃ r37 : Bool, e = .returned (.bool r37) ∧ 
      cnd r37
      (K (.bool false) w36)
      (Calls Try.prog 48 #[.pointer z_23, .int .i64 v_] w36 fun e w38 => ∃ r39 : Int, e = .returned (.int .i64 r39) ∧ 
      cnd (r39 != (0 : Int))
      (K (.bool false) w38)
      (Calls Try.prog 51 #[.pointer z_23] w38 fun e w40 => ∃ r41 : Int, e = .returned (.int .i64 r41) ∧ 
      cnd (r41 != (0 : Int))
      (K (.bool false) w40)
      (Calls Try.prog 45 #[.pointer z_23] w40 fun e w42 => ∃ r43 : Int, e = .returned (.int .i64 r43) ∧ 
      cnd (r43 != (0 : Int))
      (K (.bool false) w42)
      (∃ k17, k17 < k16 ∧ I15 (IntKind.i64.wrap (k_18 + (1 : Int))) w42 k17)))))))))))
    (Calls Try.prog 46 #[] w19 fun e w44 => ∃ r45 : Bool, e = .returned (.bool r45) ∧ 
      K (.bool r45) w44)
theorem fathomlaw09_HeapNew.eq (n_ : Int) (v_ : Int) (w : World) (K : Value → World → Prop) : wpF Try.prog Try.f14 (.two .leaf (.cut [(0, 3)] .leaf (.two .leaf (.cut [] .leaf (.two (.two .leaf (.one (.loop [(7, 3)] (.two .leaf (.two (.one (.two .leaf (.cut [(8, 71)] .leaf .leaf))) .leaf))))) .leaf))))) [.int .i64 n_, .int .i64 v_] w K = fathomlaw09_HeapNew.w n_ v_ w K := by kernel_rfl
theorem fathomlaw09_HeapNew.ok : fnOk Try.prog Try.f14 2 = true := by kernel_rfl
theorem fathomlaw09_HeapNew.calls {n_ : Int} {v_ : Int} {w : World} {R : Ending → World → Prop} (h : fathomlaw09_HeapNew.w n_ v_ w fun v w' => R (.returned v) w') : Calls Try.prog 14 #[.int .i64 n_, .int .i64 v_] w R :=
  calls_of mixed Try.func14 fathomlaw09_HeapNew.ok rfl (fun K => fathomlaw09_HeapNew.eq n_ v_ w K) h

/-! ### fathom/fathomlaw09.play: function 41 (named slots 17) cuts [(2, 109), (9, 9)] -/
def fathomlaw09_play.w (n_ : Int) (l__p : Option Addr) (l__n : Nat) (l__c : Nat) (w : World) (K : Value → World → Prop) : Prop :=
  ∀ (n1 : Nat) (w2 : World), New (.cells #[.slice none 0 0, .slice none 0 0, .int .i64 0] 74) w n1 w2 → 
  Calls Try.prog 71 #[.int .i64 n_] w2 fun e w3 => ∃ r4_p : Option Addr, ∃ r4_n : Nat, ∃ r4_c : Nat, ∃ r5_p : Option Addr, ∃ r5_n : Nat, ∃ r5_c : Nat, ∃ r6 : Int, e = .returned (.agg #[.slice r4_p r4_n r4_c, .slice r5_p r5_n r5_c, .int .i64 r6]) ∧ 
  ∀ (n7 : Nat) (w8 : World), New (.cells #[.slice none 0 0, .slice none 0 0, .int .i64 0] 74) w3 n7 w8 → 
  ∃ w9 : World, StoreAt (Addr.mk n7 0 none) 0 [.slice r4_p r4_n r4_c, .slice r5_p r5_n r5_c, .int .i64 r6] w8 w9 ∧ 
  Calls Try.prog 52 #[.int .i64 n_] w9 fun e w10 => ∃ r11 : Option Addr, ∃ r12 : Int, e = .returned (.tuple #[.pointer r11, .int .i64 r12]) ∧ 
  cnd (r12 != (0 : Int))
  (∃ x13_p : Option Addr, ∃ x13_n : Nat, ∃ x13_c : Nat, ∃ x14_p : Option Addr, ∃ x14_n : Nat, ∃ x14_c : Nat, ∃ x15 : Int, CellsAt w10.drew (Addr.mk n7 0 none) 0 [.slice x13_p x13_n x13_c, .slice x14_p x14_n x14_c, .int .i64 x15] ∧ 
  ∃ w16 : World, StoreAt (Addr.mk n1 0 none) 0 [.slice x13_p x13_n x13_c, .slice x14_p x14_n x14_c, .int .i64 x15] w10.drew w16 ∧ 
  ∃ x17_p : Option Addr, ∃ x17_n : Nat, ∃ x17_c : Nat, ∃ x18_p : Option Addr, ∃ x18_n : Nat, ∃ x18_c : Nat, ∃ x19 : Int, CellsAt w16 (Addr.mk n1 0 none) 0 [.slice x17_p x17_n x17_c, .slice x18_p x18_n x18_c, .int .i64 x19] ∧ 
  K (.tuple #[.pointer r11, .agg #[.slice x17_p x17_n x17_c, .slice x18_p x18_n x18_c, .int .i64 x19], .bool false]) w16)
  (cnd r11.isNone
  (∃ x20_p : Option Addr, ∃ x20_n : Nat, ∃ x20_c : Nat, ∃ x21_p : Option Addr, ∃ x21_n : Nat, ∃ x21_c : Nat, ∃ x22 : Int, CellsAt w10.drew (Addr.mk n7 0 none) 0 [.slice x20_p x20_n x20_c, .slice x21_p x21_n x21_c, .int .i64 x22] ∧ 
    ∃ w23 : World, StoreAt (Addr.mk n1 0 none) 0 [.slice x20_p x20_n x20_c, .slice x21_p x21_n x21_c, .int .i64 x22] w10.drew w23 ∧ 
    ∃ x24_p : Option Addr, ∃ x24_n : Nat, ∃ x24_c : Nat, ∃ x25_p : Option Addr, ∃ x25_n : Nat, ∃ x25_c : Nat, ∃ x26 : Int, CellsAt w23 (Addr.mk n1 0 none) 0 [.slice x24_p x24_n x24_c, .slice x25_p x25_n x25_c, .int .i64 x26] ∧ 
    K (.tuple #[.pointer r11, .agg #[.slice x24_p x24_n x24_c, .slice x25_p x25_n x25_c, .int .i64 x26], .bool false]) w23)
  (∃ I27 : Int → World → Nat → Prop, (∃ k28, I27 0 w10 k28) ∧
    ∀ (i_30 : Int) (w31 : World) (k28 : Nat) (_ : Fr), I27 i_30 w31 k28 →
    cnd (decide (i_30 < (l__n : Int)))
      (cnd (decide (i_30 < (60 : Int)))
      (∃ J32 : Bool → World → Prop, (ixK l__p l__n i_30 3 fun a33 =>
        ∃ x34 : Int, w31.cell? (a33.add 1) = some (.int .i64 x34) ∧ 
        cnd (decide (x34 ≥ (1 : Int)))
        (ixK l__p l__n i_30 3 fun a35 =>
        ∃ x36 : Int, w31.cell? (a35.add 1) = some (.int .i64 x36) ∧ 
        J32 (decide (x36 ≤ n_)) w31)
        (J32 false w31)) ∧
        ∀ (is_37 : Bool) (w38 : World) (_ : Fr), J32 is_37 w38 → 
        ∃ J39 : Bool → Int → World → Prop, (ixK l__p l__n i_30 3 fun a40 =>
        ∃ x41 : Int, w38.cell? (a40.add 0) = some (.int .i64 x41) ∧ 
        cnd (x41 == (0 : Int))
        (ixK l__p l__n i_30 3 fun a42 =>
          ∃ x43 : Int, w38.cell? (a42.add 1) = some (.int .i64 x43) ∧ 
          Calls Try.prog 56 #[.pointer r11, .int .i64 x43] w38 fun e w44 => ∃ r45 : Int, e = .returned (.int .i64 r45) ∧ 
          cnd is_37
          (∃ x46_p : Option Addr, ∃ x46_n : Nat, ∃ x46_c : Nat, ∃ x47_p : Option Addr, ∃ x47_n : Nat, ∃ x47_c : Nat, ∃ x48 : Int, CellsAt w44.drew (Addr.mk n7 0 none) 0 [.slice x46_p x46_n x46_c, .slice x47_p x47_n x47_c, .int .i64 x48] ∧ 
            ixK l__p l__n i_30 3 fun a49 =>
            ∃ x50 : Int, w44.drew.cell? (a49.add 1) = some (.int .i64 x50) ∧ 
            Calls Try.prog 72 #[.agg #[.slice x46_p x46_n x46_c, .slice x47_p x47_n x47_c, .int .i64 x48], .int .i64 x50] w44.drew fun e w51 => ∃ r52_p : Option Addr, ∃ r52_n : Nat, ∃ r52_c : Nat, ∃ r53_p : Option Addr, ∃ r53_n : Nat, ∃ r53_c : Nat, ∃ r54 : Int, e = .returned (.agg #[.slice r52_p r52_n r52_c, .slice r53_p r53_n r53_c, .int .i64 r54]) ∧ 
            ∃ w55 : World, StoreAt (Addr.mk n7 0 none) 0 [.slice r52_p r52_n r52_c, .slice r53_p r53_n r53_c, .int .i64 r54] w51 w55 ∧ 
            J39 is_37 r45 w55)
          (J39 is_37 r45 w44))
        (cnd (x41 == (1 : Int))
          (Calls Try.prog 43 #[.pointer r11] w38 fun e w56 => ∃ r57 : Int, ∃ r58 : Bool, e = .returned (.tuple #[.int .i64 r57, .bool r58]) ∧ 
            ∃ x59_p : Option Addr, ∃ x59_n : Nat, ∃ x59_c : Nat, ∃ x60_p : Option Addr, ∃ x60_n : Nat, ∃ x60_c : Nat, ∃ x61 : Int, CellsAt w56 (Addr.mk n7 0 none) 0 [.slice x59_p x59_n x59_c, .slice x60_p x60_n x60_c, .int .i64 x61] ∧ 
            Calls Try.prog 73 #[.agg #[.slice x59_p x59_n x59_c, .slice x60_p x60_n x60_c, .int .i64 x61]] w56 fun e w62 => ∃ r63 : Int, e = .returned (.int .i64 r63) ∧ 
            cnd (r57 != r63)
            (∃ x64_p : Option Addr, ∃ x64_n : Nat, ∃ x64_c : Nat, ∃ x65_p : Option Addr, ∃ x65_n : Nat, ∃ x65_c : Nat, ∃ x66 : Int, CellsAt w62.drew (Addr.mk n7 0 none) 0 [.slice x64_p x64_n x64_c, .slice x65_p x65_n x65_c, .int .i64 x66] ∧ 
            ∃ w67 : World, StoreAt (Addr.mk n1 0 none) 0 [.slice x64_p x64_n x64_c, .slice x65_p x65_n x65_c, .int .i64 x66] w62.drew w67 ∧ 
            ∃ x68_p : Option Addr, ∃ x68_n : Nat, ∃ x68_c : Nat, ∃ x69_p : Option Addr, ∃ x69_n : Nat, ∃ x69_c : Nat, ∃ x70 : Int, CellsAt w67 (Addr.mk n1 0 none) 0 [.slice x68_p x68_n x68_c, .slice x69_p x69_n x69_c, .int .i64 x70] ∧ 
            K (.tuple #[.pointer r11, .agg #[.slice x68_p x68_n x68_c, .slice x69_p x69_n x69_c, .int .i64 x70], .bool false]) w67)
            (cnd (!(r58 == (decide (r63 > (0 : Int)))))
            (∃ x71_p : Option Addr, ∃ x71_n : Nat, ∃ x71_c : Nat, ∃ x72_p : Option Addr, ∃ x72_n : Nat, ∃ x72_c : Nat, ∃ x73 : Int, CellsAt w62.drew (Addr.mk n7 0 none) 0 [.slice x71_p x71_n x71_c, .slice x72_p x72_n x72_c, .int .i64 x73] ∧ 
              ∃ w74 : World, StoreAt (Addr.mk n1 0 none) 0 [.slice x71_p x71_n x71_c, .slice x72_p x72_n x72_c, .int .i64 x73] w62.drew w74 ∧ 
              ∃ x75_p : Option Addr, ∃ x75_n : Nat, ∃ x75_c : Nat, ∃ x76_p : Option Addr, ∃ x76_n : Nat, ∃ x76_c : Nat, ∃ x77 : Int, CellsAt w74 (Addr.mk n1 0 none) 0 [.slice x75_p x75_n x75_c, .slice x76_p x76_n x76_c, .int .i64 x77] ∧ 
              K (.tuple #[.pointer r11, .agg #[.slice x75_p x75_n x75_c, .slice x76_p x76_n x76_c, .int .i64 x77], .bool false]) w74)
            (cnd r58
              (∃ x78_p : Option Addr, ∃ x78_n : Nat, ∃ x78_c : Nat, ∃ x79_p : Option Addr, ∃ x79_n : Nat, ∃ x79_c : Nat, ∃ x80 : Int, CellsAt w62 (Addr.mk n7 0 none) 0 [.slice x78_p x78_n x78_c, .slice x79_p x79_n x79_c, .int .i64 x80] ∧ 
                Calls Try.prog 44 #[.agg #[.slice x78_p x78_n x78_c, .slice x79_p x79_n x79_c, .int .i64 x80], .int .i64 r57, .bool false] w62 fun e w81 => ∃ r82_p : Option Addr, ∃ r82_n : Nat, ∃ r82_c : Nat, ∃ r83_p : Option Addr, ∃ r83_n : Nat, ∃ r83_c : Nat, ∃ r84 : Int, e = .returned (.agg #[.slice r82_p r82_n r82_c, .slice r83_p r83_n r83_c, .int .i64 r84]) ∧ 
                ∃ w85 : World, StoreAt (Addr.mk n7 0 none) 0 [.slice r82_p r82_n r82_c, .slice r83_p r83_n r83_c, .int .i64 r84] w81 w85 ∧ 
                J39 true 0 w85)
              (J39 true 0 w62))))
          (cnd (x41 == (2 : Int))
            (ixK l__p l__n i_30 3 fun a86 =>
              ∃ x87 : Int, w38.cell? (a86.add 1) = some (.int .i64 x87) ∧ 
              Calls Try.prog 55 #[.pointer r11, .int .i64 x87] w38 fun e w88 => ∃ r89 : Int, e = .returned (.int .i64 r89) ∧ 
              cnd is_37
              (∃ x90_p : Option Addr, ∃ x90_n : Nat, ∃ x90_c : Nat, ∃ x91_p : Option Addr, ∃ x91_n : Nat, ∃ x91_c : Nat, ∃ x92 : Int, CellsAt w88.drew (Addr.mk n7 0 none) 0 [.slice x90_p x90_n x90_c, .slice x91_p x91_n x91_c, .int .i64 x92] ∧ 
                ixK l__p l__n i_30 3 fun a93 =>
                ∃ x94 : Int, w88.drew.cell? (a93.add 1) = some (.int .i64 x94) ∧ 
                Calls Try.prog 44 #[.agg #[.slice x90_p x90_n x90_c, .slice x91_p x91_n x91_c, .int .i64 x92], .int .i64 x94, .bool true] w88.drew fun e w95 => ∃ r96_p : Option Addr, ∃ r96_n : Nat, ∃ r96_c : Nat, ∃ r97_p : Option Addr, ∃ r97_n : Nat, ∃ r97_c : Nat, ∃ r98 : Int, e = .returned (.agg #[.slice r96_p r96_n r96_c, .slice r97_p r97_n r97_c, .int .i64 r98]) ∧ 
                ∃ w99 : World, StoreAt (Addr.mk n7 0 none) 0 [.slice r96_p r96_n r96_c, .slice r97_p r97_n r97_c, .int .i64 r98] w95 w99 ∧ 
                J39 is_37 r89 w99)
              (J39 is_37 r89 w88))
            (cnd (x41 == (3 : Int))
              (∃ I100 : Int → World → Nat → Prop, (∃ k101, I100 0 w38 k101) ∧
                ∀ (k_103 : Int) (w104 : World) (k101 : Nat) (_ : Fr), I100 k_103 w104 k101 →
                ixK l__p l__n i_30 3 fun a105 =>
                  ∃ x106 : Int, w104.cell? (a105.add 2) = some (.int .i64 x106) ∧ 
                  cnd (decide (k_103 < x106))
                  (cnd (decide (k_103 < (400 : Int)))
                  (Calls Try.prog 49 #[.pointer r11] w104 fun e w107 => e = .returned (.tuple #[]) ∧ 
                    ∃ x108_p : Option Addr, ∃ x108_n : Nat, ∃ x108_c : Nat, ∃ x109_p : Option Addr, ∃ x109_n : Nat, ∃ x109_c : Nat, ∃ x110 : Int, CellsAt w107 (Addr.mk n7 0 none) 0 [.slice x108_p x108_n x108_c, .slice x109_p x109_n x109_c, .int .i64 x110] ∧ 
                    Calls Try.prog 50 #[.agg #[.slice x108_p x108_n x108_c, .slice x109_p x109_n x109_c, .int .i64 x110]] w107 fun e w111 => ∃ r112_p : Option Addr, ∃ r112_n : Nat, ∃ r112_c : Nat, ∃ r113_p : Option Addr, ∃ r113_n : Nat, ∃ r113_c : Nat, ∃ r114 : Int, e = .returned (.agg #[.slice r112_p r112_n r112_c, .slice r113_p r113_n r113_c, .int .i64 r114]) ∧ 
                    ∃ w115 : World, StoreAt (Addr.mk n7 0 none) 0 [.slice r112_p r112_n r112_c, .slice r113_p r113_n r113_c, .int .i64 r114] w111 w115 ∧ 
                    ∃ k102, k102 < k101 ∧ I100 (IntKind.i64.wrap (k_103 + (1 : Int))) w115 k102)
                  (J39 true 0 w104))
                  (J39 true 0 w104))
              (J39 true 0 w38))))) ∧
        ∀ (is_116 : Bool) (e_117 : Int) (w118 : World) (_ : Fr), J39 is_116 e_117 w118 → 
        cnd (!((e_117 == (0 : Int)) == is_116))
        (∃ x119_p : Option Addr, ∃ x119_n : Nat, ∃ x119_c : Nat, ∃ x120_p : Option Addr, ∃ x120_n : Nat, ∃ x120_c : Nat, ∃ x121 : Int, CellsAt w118.drew (Addr.mk n7 0 none) 0 [.slice x119_p x119_n x119_c, .slice x120_p x120_n x120_c, .int .i64 x121] ∧ 
          ∃ w122 : World, StoreAt (Addr.mk n1 0 none) 0 [.slice x119_p x119_n x119_c, .slice x120_p x120_n x120_c, .int .i64 x121] w118.drew w122 ∧ 
          ∃ x123_p : Option Addr, ∃ x123_n : Nat, ∃ x123_c : Nat, ∃ x124_p : Option Addr, ∃ x124_n : Nat, ∃ x124_c : Nat, ∃ x125 : Int, CellsAt w122 (Addr.mk n1 0 none) 0 [.slice x123_p x123_n x123_c, .slice x124_p x124_n x124_c, .int .i64 x125] ∧ 
          K (.tuple #[.pointer r11, .agg #[.slice x123_p x123_n x123_c, .slice x124_p x124_n x124_c, .int .i64 x125], .bool false]) w122)
        (∃ k29, k29 < k28 ∧ I27 (IntKind.i64.wrap (i_30 + (1 : Int))) w118 k29))
      (∃ x126_p : Option Addr, ∃ x126_n : Nat, ∃ x126_c : Nat, ∃ x127_p : Option Addr, ∃ x127_n : Nat, ∃ x127_c : Nat, ∃ x128 : Int, CellsAt w31.drew (Addr.mk n7 0 none) 0 [.slice x126_p x126_n x126_c, .slice x127_p x127_n x127_c, .int .i64 x128] ∧ 
        ∃ w129 : World, StoreAt (Addr.mk n1 0 none) 0 [.slice x126_p x126_n x126_c, .slice x127_p x127_n x127_c, .int .i64 x128] w31.drew w129 ∧ 
        ∃ x130_p : Option Addr, ∃ x130_n : Nat, ∃ x130_c : Nat, ∃ x131_p : Option Addr, ∃ x131_n : Nat, ∃ x131_c : Nat, ∃ x132 : Int, CellsAt w129 (Addr.mk n1 0 none) 0 [.slice x130_p x130_n x130_c, .slice x131_p x131_n x131_c, .int .i64 x132] ∧ 
        K (.tuple #[.pointer r11, .agg #[.slice x130_p x130_n x130_c, .slice x131_p x131_n x131_c, .int .i64 x132], .bool true]) w129))
      (∃ x133_p : Option Addr, ∃ x133_n : Nat, ∃ x133_c : Nat, ∃ x134_p : Option Addr, ∃ x134_n : Nat, ∃ x134_c : Nat, ∃ x135 : Int, CellsAt w31.drew (Addr.mk n7 0 none) 0 [.slice x133_p x133_n x133_c, .slice x134_p x134_n x134_c, .int .i64 x135] ∧ 
      ∃ w136 : World, StoreAt (Addr.mk n1 0 none) 0 [.slice x133_p x133_n x133_c, .slice x134_p x134_n x134_c, .int .i64 x135] w31.drew w136 ∧ 
      ∃ x137_p : Option Addr, ∃ x137_n : Nat, ∃ x137_c : Nat, ∃ x138_p : Option Addr, ∃ x138_n : Nat, ∃ x138_c : Nat, ∃ x139 : Int, CellsAt w136 (Addr.mk n1 0 none) 0 [.slice x137_p x137_n x137_c, .slice x138_p x138_n x138_c, .int .i64 x139] ∧ 
      K (.tuple #[.pointer r11, .agg #[.slice x137_p x137_n x137_c, .slice x138_p x138_n x138_c, .int .i64 x139], .bool true]) w136)))
theorem fathomlaw09_play.eq (n_ : Int) (l__p : Option Addr) (l__n : Nat) (l__c : Nat) (w : World) (K : Value → World → Prop) : wpF Try.prog Try.f41 (.two .leaf (.two .leaf (.two .leaf (.two .leaf (.two (.two .leaf (.one (.loop [(10, 3)] (.two .leaf (.two (.one (.cut [(11, 4)] .leaf (.two .leaf (.cut [(11, 4), (12, 22)] (.two .leaf (.one (.two .leaf (.two .leaf (.two .leaf (.two .leaf (.two .leaf (.two .leaf (.two .leaf (.two (.two .leaf (.two .leaf (.one (.loop [(16, 3)] .leaf)))) .leaf)))))))))) .leaf)))) .leaf))))) .leaf))))) [.int .i64 n_, .slice l__p l__n l__c] w K = fathomlaw09_play.w n_ l__p l__n l__c w K := by kernel_rfl
theorem fathomlaw09_play.ok : fnOk Try.prog Try.f41 2 = true := by kernel_rfl
theorem fathomlaw09_play.calls {n_ : Int} {l__p : Option Addr} {l__n : Nat} {l__c : Nat} {w : World} {R : Ending → World → Prop} (h : fathomlaw09_play.w n_ l__p l__n l__c w fun v w' => R (.returned v) w') : Calls Try.prog 41 #[.int .i64 n_, .slice l__p l__n l__c] w R :=
  calls_of mixed Try.func41 fathomlaw09_play.ok rfl (fun K => fathomlaw09_play.eq n_ l__p l__n l__c w K) h

/-! ### fathom/fathomref09.Len: function 42 (named slots 5) -/
def fathomref09_Len.w (h_0_p : Option Addr) (h_0_n : Nat) (h_0_c : Nat) (h_1_p : Option Addr) (h_1_n : Nat) (h_1_c : Nat) (h_2 : Int) (w : World) (K : Value → World → Prop) : Prop :=
  ∀ (n1 : Nat) (w2 : World), New (.cells #[.slice h_0_p h_0_n h_0_c, .slice h_1_p h_1_n h_1_c, .int .i64 h_2] 74) w n1 w2 → 
  ∃ I3 : Int → Int → World → Nat → Prop, (∃ k4, I3 0 1 w2 k4) ∧
  ∀ (n_6 : Int) (v_7 : Int) (w8 : World) (k4 : Nat) (_ : Fr), I3 n_6 v_7 w8 k4 →
  ∃ x9_p : Option Addr, ∃ x9_n : Nat, ∃ x9_c : Nat, w8.cell? ((Addr.mk n1 0 none).add 0) = some (.slice x9_p x9_n x9_c) ∧ 
    cnd (decide (v_7 < (x9_n : Int)))
    (∃ x10_p : Option Addr, ∃ x10_n : Nat, ∃ x10_c : Nat, w8.cell? ((Addr.mk n1 0 none).add 0) = some (.slice x10_p x10_n x10_c) ∧ 
      ixK x10_p x10_n v_7 1 fun a11 =>
      ∃ x12 : Bool, w8.cell? a11 = some (.bool x12) ∧ 
      cnd x12
      (∃ k5, k5 < k4 ∧ I3 (IntKind.i64.wrap (n_6 + (1 : Int))) (IntKind.i64.wrap (v_7 + (1 : Int))) w8 k5)
      (∃ k5, k5 < k4 ∧ I3 n_6 (IntKind.i64.wrap (v_7 + (1 : Int))) w8 k5))
    (K (.int .i64 n_6) w8)
theorem fathomref09_Len.eq (h_0_p : Option Addr) (h_0_n : Nat) (h_0_c : Nat) (h_1_p : Option Addr) (h_1_n : Nat) (h_1_c : Nat) (h_2 : Int) (w : World) (K : Value → World → Prop) : wpF Try.prog Try.f42 (.two .leaf (.two .leaf (.two (.two .leaf (.one (.loop [(3, 3), (4, 3)] .leaf))) .leaf))) [.agg #[.slice h_0_p h_0_n h_0_c, .slice h_1_p h_1_n h_1_c, .int .i64 h_2]] w K = fathomref09_Len.w h_0_p h_0_n h_0_c h_1_p h_1_n h_1_c h_2 w K := by kernel_rfl
theorem fathomref09_Len.ok : fnOk Try.prog Try.f42 1 = true := by kernel_rfl
theorem fathomref09_Len.calls {h_0_p : Option Addr} {h_0_n : Nat} {h_0_c : Nat} {h_1_p : Option Addr} {h_1_n : Nat} {h_1_c : Nat} {h_2 : Int} {w : World} {R : Ending → World → Prop} (h : fathomref09_Len.w h_0_p h_0_n h_0_c h_1_p h_1_n h_1_c h_2 w fun v w' => R (.returned v) w') : Calls Try.prog 42 #[.agg #[.slice h_0_p h_0_n h_0_c, .slice h_1_p h_1_n h_1_c, .int .i64 h_2]] w R :=
  calls_of mixed Try.func42 fathomref09_Len.ok rfl (fun K => fathomref09_Len.eq h_0_p h_0_n h_0_c h_1_p h_1_n h_1_c h_2 w K) h

/-! ### (*fathom/heap.Heap).Pop: function 43 (named slots 8) -/
def heap_Heap_Pop.w (h_ : Option Addr) (w : World) (K : Value → World → Prop) : Prop :=
  Calls Try.prog 54 #[.pointer h_] w fun e w1 => ∃ r2 : Int, ∃ r3 : Bool, e = .returned (.tuple #[.int .i64 r2, .bool r3]) ∧ 
  cnd (!r3)
  (K (.tuple #[.int .i64 0, .bool false]) w1)
  (∃ a4 : Addr, h_ = some a4 ∧ ∃ x5_p : Option Addr, ∃ x5_n : Nat, ∃ x5_c : Nat, w1.cell? (a4.add 0) = some (.slice x5_p x5_n x5_c) ∧ 
    ∃ a6 : Addr, h_ = some a6 ∧ ∃ x7_p : Option Addr, ∃ x7_n : Nat, ∃ x7_c : Nat, w1.cell? (a6.add 0) = some (.slice x7_p x7_n x7_c) ∧ 
    ixK x7_p x7_n (IntKind.i64.wrap ((x5_n : Int) - (1 : Int))) 1 fun a8 =>
    ∃ x9 : Int, w1.cell? a8 = some (.int .i64 x9) ∧ 
    ∃ a10 : Addr, h_ = some a10 ∧ ∃ x11_p : Option Addr, ∃ x11_n : Nat, ∃ x11_c : Nat, w1.cell? (a10.add 0) = some (.slice x11_p x11_n x11_c) ∧ 
    slK x11_p x11_n x11_c 1 none (some (IntKind.i64.wrap ((x5_n : Int) - (1 : Int)))) none fun s12_p s12_n s12_c =>
    ∃ a13 : Addr, h_ = some a13 ∧ ∃ w14 : World, StoreAt (a13.add 0) 0 [.slice s12_p s12_n s12_c] w1 w14 ∧ 
    ∃ a15 : Addr, h_ = some a15 ∧ ∃ x16_p : Option Addr, ∃ x16_n : Nat, ∃ x16_c : Nat, w14.cell? (a15.add 1) = some (.slice x16_p x16_n x16_c) ∧ 
    ixK x16_p x16_n r2 1 fun a17 =>
    ∃ w18 : World, StoreAt a17 0 [.int .i64 0] w14 w18 ∧ 
    cnd (decide ((IntKind.i64.wrap ((x5_n : Int) - (1 : Int))) > (0 : Int)))
    (Calls Try.prog 74 #[.pointer h_, .int .i64 0, .int .i64 x9] w18 fun e w19 => e = .returned (.tuple #[]) ∧ 
      Calls Try.prog 75 #[.pointer h_, .int .i64 0] w19 fun e w20 => e = .returned (.tuple #[]) ∧ 
      K (.tuple #[.int .i64 r2, .bool true]) w20)
    (K (.tuple #[.int .i64 r2, .bool true]) w18))
theorem heap_Heap_Pop.eq (h_ : Option Addr) (w : World) (K : Value → World → Prop) : wpF Try.prog Try.f43 .leaf [.pointer h_] w K = heap_Heap_Pop.w h_ w K := by kernel_rfl
theorem heap_Heap_Pop.ok : fnOk Try.prog Try.f43 1 = true := by kernel_rfl
theorem heap_Heap_Pop.calls {h_ : Option Addr} {w : World} {R : Ending → World → Prop} (h : heap_Heap_Pop.w h_ w fun v w' => R (.returned v) w') : Calls Try.prog 43 #[.pointer h_] w R :=
  calls_of mixed Try.func43 heap_Heap_Pop.ok rfl (fun K => heap_Heap_Pop.eq h_ w K) h

/-! ### fathom/fathomref09.Set: function 44 (named slots 7) -/
def fathomref09_Set.w (h_0_p : Option Addr) (h_0_n : Nat) (h_0_c : Nat) (h_1_p : Option Addr) (h_1_n : Nat) (h_1_c : Nat) (h_2 : Int) (v_ : Int) (in_ : Bool) (w : World) (K : Value → World → Prop) : Prop :=
  ∀ (n1 : Nat) (w2 : World), New (.cells #[.slice h_0_p h_0_n h_0_c, .slice h_1_p h_1_n h_1_c, .int .i64 h_2] 74) w n1 w2 → 
  ∀ (n3 : Nat) (w4 : World), New (.cells #[.slice none 0 0, .slice none 0 0, .int .i64 0] 74) w2 n3 w4 → 
  ∀ (n5 : Nat) (w6 : World), New (.cells #[] 4) w4 n5 w6 → 
  ∃ x7_p : Option Addr, ∃ x7_n : Nat, ∃ x7_c : Nat, w6.cell? ((Addr.mk n1 0 none).add 0) = some (.slice x7_p x7_n x7_c) ∧ 
  ∃ w8 : World, ∃ r9_p : Option Addr, ∃ r9_n : Nat, ∃ r9_c : Nat, (Builtin.append_ #[72, 72] 72 #[.slice (some (Addr.mk n5 0 none)) 0 0, .slice x7_p x7_n x7_c]).run Try.prog w6 = .ok (.slice r9_p r9_n r9_c) w8 ∧ 
  ∃ w10 : World, StoreAt ((Addr.mk n1 0 none).add 0) 0 [.slice r9_p r9_n r9_c] w8 w10 ∧ 
  ∃ x11_p : Option Addr, ∃ x11_n : Nat, ∃ x11_c : Nat, w10.cell? ((Addr.mk n1 0 none).add 0) = some (.slice x11_p x11_n x11_c) ∧ 
  ixK x11_p x11_n v_ 1 fun a12 =>
  ∃ w13 : World, StoreAt a12 0 [.bool in_] w10 w13 ∧ 
  ∃ x14_p : Option Addr, ∃ x14_n : Nat, ∃ x14_c : Nat, ∃ x15_p : Option Addr, ∃ x15_n : Nat, ∃ x15_c : Nat, ∃ x16 : Int, CellsAt w13 (Addr.mk n1 0 none) 0 [.slice x14_p x14_n x14_c, .slice x15_p x15_n x15_c, .int .i64 x16] ∧ 
  ∃ w17 : World, StoreAt (Addr.mk n3 0 none) 0 [.slice x14_p x14_n x14_c, .slice x15_p x15_n x15_c, .int .i64 x16] w13 w17 ∧ 
  ∃ x18_p : Option Addr, ∃ x18_n : Nat, ∃ x18_c : Nat, ∃ x19_p : Option Addr, ∃ x19_n : Nat, ∃ x19_c : Nat, ∃ x20 : Int, CellsAt w17 (Addr.mk n3 0 none) 0 [.slice x18_p x18_n x18_c, .slice x19_p x19_n x19_c, .int .i64 x20] ∧ 
  K (.agg #[.slice x18_p x18_n x18_c, .slice x19_p x19_n x19_c, .int .i64 x20]) w17
theorem fathomref09_Set.eq (h_0_p : Option Addr) (h_0_n : Nat) (h_0_c : Nat) (h_1_p : Option Addr) (h_1_n : Nat) (h_1_c : Nat) (h_2 : Int) (v_ : Int) (in_ : Bool) (w : World) (K : Value → World → Prop) : wpF Try.prog Try.f44 .leaf [.agg #[.slice h_0_p h_0_n h_0_c, .slice h_1_p h_1_n h_1_c, .int .i64 h_2], .int .i64 v_, .bool in_] w K = fathomref09_Set.w h_0_p h_0_n h_0_c h_1_p h_1_n h_1_c h_2 v_ in_ w K := by kernel_rfl
theorem fathomref09_Set.ok : fnOk Try.prog Try.f44 3 = true := by kernel_rfl
theorem fathomref09_Set.calls {h_0_p : Option Addr} {h_0_n : Nat} {h_0_c : Nat} {h_1_p : Option Addr} {h_1_n : Nat} {h_1_c : Nat} {h_2 : Int} {v_ : Int} {in_ : Bool} {w : World} {R : Ending → World → Prop} (h : fathomref09_Set.w h_0_p h_0_n h_0_c h_1_p h_1_n h_1_c h_2 v_ in_ w fun v w' => R (.returned v) w') : Calls Try.prog 44 #[.agg #[.slice h_0_p h_0_n h_0_c, .slice h_1_p h_1_n h_1_c, .int .i64 h_2], .int .i64 v_, .bool in_] w R :=
  calls_of mixed Try.func44 fathomref09_Set.ok rfl (fun K => fathomref09_Set.eq h_0_p h_0_n h_0_c h_1_p h_1_n h_1_c h_2 v_ in_ w K) h

/-! ### (*fathom/heap.Heap).Len: function 45 (named slots 3) -/
def heap_Heap_Len.w (h_ : Option Addr) (w : World) (K : Value → World → Prop) : Prop :=
  cnd h_.isNone
  (K (.int .i64 0) w)
  (∃ a1 : Addr, h_ = some a1 ∧ ∃ x2_p : Option Addr, ∃ x2_n : Nat, ∃ x2_c : Nat, w.cell? (a1.add 0) = some (.slice x2_p x2_n x2_c) ∧ 
    K (.int .i64 (x2_n : Int)) w)
theorem heap_Heap_Len.eq (h_ : Option Addr) (w : World) (K : Value → World → Prop) : wpF Try.prog Try.f45 .leaf [.pointer h_] w K = heap_Heap_Len.w h_ w K := by kernel_rfl
theorem heap_Heap_Len.ok : fnOk Try.prog Try.f45 1 = true := by kernel_rfl
theorem heap_Heap_Len.calls {h_ : Option Addr} {w : World} {R : Ending → World → Prop} (h : heap_Heap_Len.w h_ w fun v w' => R (.returned v) w') : Calls Try.prog 45 #[.pointer h_] w R :=
  calls_of mixed Try.func45 heap_Heap_Len.ok rfl (fun K => heap_Heap_Len.eq h_ w K) h

/-! ### fathom/fathomlaw09.awake: function 46 (named slots 7) -/
def fathomlaw09_awake.w (w : World) (K : Value → World → Prop) : Prop :=
  Calls Try.prog 52 #[.int .i64 3] w fun e w1 => ∃ r2 : Option Addr, ∃ r3 : Int, e = .returned (.tuple #[.pointer r2, .int .i64 r3]) ∧ 
  cnd (r3 != (0 : Int))
  (K (.bool false) w1)
  (cnd r2.isNone
  (K (.bool false) w1)
  (Calls Try.prog 56 #[.pointer r2, .int .i64 2] w1 fun e w4 => ∃ r5 : Int, e = .returned (.int .i64 r5) ∧ 
  cnd (r5 != (0 : Int))
  (K (.bool false) w4)
  (Calls Try.prog 43 #[.pointer r2] w4 fun e w6 => ∃ r7 : Int, ∃ r8 : Bool, e = .returned (.tuple #[.int .i64 r7, .bool r8]) ∧ 
    Calls Try.prog 43 #[.pointer r2] w6 fun e w9 => ∃ r10 : Int, ∃ r11 : Bool, e = .returned (.tuple #[.int .i64 r10, .bool r11]) ∧ 
    cnd (r7 == (2 : Int))
    (cnd (r10 == (1 : Int))
    (Calls Try.prog 45 #[.pointer r2] w9 fun e w12 => ∃ r13 : Int, e = .returned (.int .i64 r13) ∧ 
    K (.bool (r13 == (1 : Int))) w12)
    (K (.bool false) w9))
    (K (.bool false) w9))))
theorem fathomlaw09_awake.eq (w : World) (K : Value → World → Prop) : wpF Try.prog Try.f46 .leaf [] w K = fathomlaw09_awake.w  w K := by kernel_rfl
theorem fathomlaw09_awake.ok : fnOk Try.prog Try.f46 0 = true := by kernel_rfl
theorem fathomlaw09_awake.calls {w : World} {R : Ending → World → Prop} (h : fathomlaw09_awake.w  w fun v w' => R (.returned v) w') : Calls Try.prog 46 #[] w R :=
  calls_of mixed Try.func46 fathomlaw09_awake.ok rfl (fun K => fathomlaw09_awake.eq  w K) h

/-! ### fathom/fathomlaw09.like: function 47 (named slots 9) cuts [(4, 47)] -/
def fathomlaw09_like.w (h_ : Option Addr) (w1_0_p : Option Addr) (w1_0_n : Nat) (w1_0_c : Nat) (w1_1_p : Option Addr) (w1_1_n : Nat) (w1_1_c : Nat) (w1_2 : Int) (w : World) (K : Value → World → Prop) : Prop :=
  ∀ (n1 : Nat) (w2 : World), New (.cells #[.slice w1_0_p w1_0_n w1_0_c, .slice w1_1_p w1_1_n w1_1_c, .int .i64 w1_2] 74) w n1 w2 → 
  Calls Try.prog 54 #[.pointer h_] w2 fun e w3 => ∃ r4 : Int, ∃ r5 : Bool, e = .returned (.tuple #[.int .i64 r4, .bool r5]) ∧ 
  ∃ x6_p : Option Addr, ∃ x6_n : Nat, ∃ x6_c : Nat, ∃ x7_p : Option Addr, ∃ x7_n : Nat, ∃ x7_c : Nat, ∃ x8 : Int, CellsAt w3 (Addr.mk n1 0 none) 0 [.slice x6_p x6_n x6_c, .slice x7_p x7_n x7_c, .int .i64 x8] ∧ 
  Calls Try.prog 73 #[.agg #[.slice x6_p x6_n x6_c, .slice x7_p x7_n x7_c, .int .i64 x8]] w3 fun e w9 => ∃ r10 : Int, e = .returned (.int .i64 r10) ∧ 
  ∃ J11 : World → Prop, (cnd (r4 != r10)
  (((K (.bool false) w9.drew) ∧
(K (.bool false) w9.drew)) ∧
((K (.bool false) w9.drew) ∧
(K (.bool false) w9.drew)))
  (cnd (!(r5 == (decide (r10 > (0 : Int)))))
  (((K (.bool false) w9.drew) ∧
(K (.bool false) w9.drew)) ∧
((K (.bool false) w9.drew) ∧
(K (.bool false) w9.drew)))
  ((Calls Try.prog 51 #[.pointer h_] w9.drew fun e w12 => ∃ r13 : Int, e = .returned (.int .i64 r13) ∧ 
  ∃ x14 : Int, w12.cell? ((Addr.mk n1 0 none).add 2) = some (.int .i64 x14) ∧ 
  cnd (r13 != x14)
  ((K (.bool false) w12) ∧
(K (.bool false) w12))
  ((Calls Try.prog 45 #[.pointer h_] w12 fun e w15 => ∃ r16 : Int, e = .returned (.int .i64 r16) ∧ 
  ∃ x17_p : Option Addr, ∃ x17_n : Nat, ∃ x17_c : Nat, ∃ x18_p : Option Addr, ∃ x18_n : Nat, ∃ x18_c : Nat, ∃ x19 : Int, CellsAt w15 (Addr.mk n1 0 none) 0 [.slice x17_p x17_n x17_c, .slice x18_p x18_n x18_c, .int .i64 x19] ∧ 
  Calls Try.prog 42 #[.agg #[.slice x17_p x17_n x17_c, .slice x18_p x18_n x18_c, .int .i64 x19]] w15 fun e w20 => ∃ r21 : Int, e = .returned (.int .i64 r21) ∧ 
  cnd (r16 != r21)
  (K (.bool false) w20)
  (J11 w20)) ∧
(∃ x22_p : Option Addr, ∃ x22_n : Nat, ∃ x22_c : Nat, ∃ x23_p : Option Addr, ∃ x23_n : Nat, ∃ x23_c : Nat, ∃ x24 : Int, CellsAt w12 (Addr.mk n1 0 none) 0 [.slice x22_p x22_n x22_c, .slice x23_p x23_n x23_c, .int .i64 x24] ∧ 
  Calls Try.prog 45 #[.pointer h_] w12 fun e w25 => ∃ r26 : Int, e = .returned (.int .i64 r26) ∧ 
  Calls Try.prog 42 #[.agg #[.slice x22_p x22_n x22_c, .slice x23_p x23_n x23_c, .int .i64 x24]] w25 fun e w27 => ∃ r28 : Int, e = .returned (.int .i64 r28) ∧ 
  cnd (r26 != r28)
  (K (.bool false) w27)
  (J11 w27)))) ∧
(∃ x29 : Int, w9.drew.cell? ((Addr.mk n1 0 none).add 2) = some (.int .i64 x29) ∧ 
  Calls Try.prog 51 #[.pointer h_] w9.drew fun e w30 => ∃ r31 : Int, e = .returned (.int .i64 r31) ∧ 
  cnd (r31 != x29)
  ((K (.bool false) w30) ∧
(K (.bool false) w30))
  ((Calls Try.prog 45 #[.pointer h_] w30 fun e w32 => ∃ r33 : Int, e = .returned (.int .i64 r33) ∧ 
  ∃ x34_p : Option Addr, ∃ x34_n : Nat, ∃ x34_c : Nat, ∃ x35_p : Option Addr, ∃ x35_n : Nat, ∃ x35_c : Nat, ∃ x36 : Int, CellsAt w32 (Addr.mk n1 0 none) 0 [.slice x34_p x34_n x34_c, .slice x35_p x35_n x35_c, .int .i64 x36] ∧ 
  Calls Try.prog 42 #[.agg #[.slice x34_p x34_n x34_c, .slice x35_p x35_n x35_c, .int .i64 x36]] w32 fun e w37 => ∃ r38 : Int, e = .returned (.int .i64 r38) ∧ 
  cnd (r33 != r38)
  (K (.bool false) w37)
  (J11 w37)) ∧
(∃ x39_p : Option Addr, ∃ x39_n : Nat, ∃ x39_c : Nat, ∃ x40_p : Option Addr, ∃ x40_n : Nat, ∃ x40_c : Nat, ∃ x41 : Int, CellsAt w30 (Addr.mk n1 0 none) 0 [.slice x39_p x39_n x39_c, .slice x40_p x40_n x40_c, .int .i64 x41] ∧ 
  Calls Try.prog 45 #[.pointer h_] w30 fun e w42 => ∃ r43 : Int, e = .returned (.int .i64 r43) ∧ 
  Calls Try.prog 42 #[.agg #[.slice x39_p x39_n x39_c, .slice x40_p x40_n x40_c, .int .i64 x41]] w42 fun e w44 => ∃ r45 : Int, e = .returned (.int .i64 r45) ∧ 
  cnd (r43 != r45)
  (K (.bool false) w44)
  (J11 w44))))))) ∧
  ∀ (w46 : World) (_ : Fr), J11 w46 → 
  ∃ I47 : Int → World → Nat → Prop, (∃ k48, I47 1 w46 k48) ∧
  ∀ (v_50 : Int) (w51 : World) (k48 : Nat) (_ : Fr), I47 v_50 w51 k48 →
  ∃ x52_p : Option Addr, ∃ x52_n : Nat, ∃ x52_c : Nat, w51.cell? ((Addr.mk n1 0 none).add 0) = some (.slice x52_p x52_n x52_c) ∧ 
    cnd (decide (v_50 < (x52_n : Int)))
    ((Calls Try.prog 53 #[.pointer h_, .int .i64 v_50] w51.drew fun e w53 => ∃ r54 : Bool, e = .returned (.bool r54) ∧ 
      ∃ x55_p : Option Addr, ∃ x55_n : Nat, ∃ x55_c : Nat, w53.cell? ((Addr.mk n1 0 none).add 0) = some (.slice x55_p x55_n x55_c) ∧ 
      ixK x55_p x55_n v_50 1 fun a56 =>
      ∃ x57 : Bool, w53.cell? a56 = some (.bool x57) ∧ 
      cnd (!(r54 == x57))
      ((K (.bool false) w53) ∧
    ((K (.bool false) w53) ∧
    (K (.bool false) w53)))
      ((Calls Try.prog 48 #[.pointer h_, .int .i64 v_50] w53 fun e w58 => ∃ r59 : Int, e = .returned (.int .i64 r59) ∧ 
      ∃ x60_p : Option Addr, ∃ x60_n : Nat, ∃ x60_c : Nat, w58.cell? ((Addr.mk n1 0 none).add 1) = some (.slice x60_p x60_n x60_c) ∧ 
      ixK x60_p x60_n v_50 1 fun a61 =>
      ∃ x62 : Int, w58.cell? a61 = some (.int .i64 x62) ∧ 
      cnd (r59 != x62)
      (K (.bool false) w58)
      (∃ k49, k49 < k48 ∧ I47 (IntKind.i64.wrap (v_50 + (1 : Int))) w58 k49)) ∧
    (∃ x63_p : Option Addr, ∃ x63_n : Nat, ∃ x63_c : Nat, w53.cell? ((Addr.mk n1 0 none).add 1) = some (.slice x63_p x63_n x63_c) ∧ 
      ixK x63_p x63_n v_50 1 fun a64 =>
      (Calls Try.prog 48 #[.pointer h_, .int .i64 v_50] w53 fun e w65 => ∃ r66 : Int, e = .returned (.int .i64 r66) ∧ 
      ∃ x67 : Int, w65.cell? a64 = some (.int .i64 x67) ∧ 
      cnd (r66 != x67)
      (K (.bool false) w65)
      (∃ k49, k49 < k48 ∧ I47 (IntKind.i64.wrap (v_50 + (1 : Int))) w65 k49)) ∧
    (∃ x68 : Int, w53.cell? a64 = some (.int .i64 x68) ∧ 
      Calls Try.prog 48 #[.pointer h_, .int .i64 v_50] w53 fun e w69 => ∃ r70 : Int, e = .returned (.int .i64 r70) ∧ 
      cnd (r70 != x68)
      (K (.bool false) w69)
      (∃ k49, k49 < k48 ∧ I47 (IntKind.i64.wrap (v_50 + (1 : Int))) w69 k49))))) ∧
    (∃ x71_p : Option Addr, ∃ x71_n : Nat, ∃ x71_c : Nat, w51.drew.cell? ((Addr.mk n1 0 none).add 0) = some (.slice x71_p x71_n x71_c) ∧ 
      ixK x71_p x71_n v_50 1 fun a72 =>
      (Calls Try.prog 53 #[.pointer h_, .int .i64 v_50] w51.drew fun e w73 => ∃ r74 : Bool, e = .returned (.bool r74) ∧ 
      ∃ x75 : Bool, w73.cell? a72 = some (.bool x75) ∧ 
      cnd (!(r74 == x75))
      ((K (.bool false) w73) ∧
    ((K (.bool false) w73) ∧
    (K (.bool false) w73)))
      ((Calls Try.prog 48 #[.pointer h_, .int .i64 v_50] w73 fun e w76 => ∃ r77 : Int, e = .returned (.int .i64 r77) ∧ 
      ∃ x78_p : Option Addr, ∃ x78_n : Nat, ∃ x78_c : Nat, w76.cell? ((Addr.mk n1 0 none).add 1) = some (.slice x78_p x78_n x78_c) ∧ 
      ixK x78_p x78_n v_50 1 fun a79 =>
      ∃ x80 : Int, w76.cell? a79 = some (.int .i64 x80) ∧ 
      cnd (r77 != x80)
      (K (.bool false) w76)
      (∃ k49, k49 < k48 ∧ I47 (IntKind.i64.wrap (v_50 + (1 : Int))) w76 k49)) ∧
    (∃ x81_p : Option Addr, ∃ x81_n : Nat, ∃ x81_c : Nat, w73.cell? ((Addr.mk n1 0 none).add 1) = some (.slice x81_p x81_n x81_c) ∧ 
      ixK x81_p x81_n v_50 1 fun a82 =>
      (Calls Try.prog 48 #[.pointer h_, .int .i64 v_50] w73 fun e w83 => ∃ r84 : Int, e = .returned (.int .i64 r84) ∧ 
      ∃ x85 : Int, w83.cell? a82 = some (.int .i64 x85) ∧ 
      cnd (r84 != x85)
      (K (.bool false) w83)
      (∃ k49, k49 < k48 ∧ I47 (IntKind.i64.wrap (v_50 + (1 : Int))) w83 k49)) ∧
    (∃ x86 : Int, w73.cell? a82 = some (.int .i64 x86) ∧ 
      Calls Try.prog 48 #[.pointer h_, .int .i64 v_50] w73 fun e w87 => ∃ r88 : Int, e = .returned (.int .i64 r88) ∧ 
      cnd (r88 != x86)
      (K (.bool false) w87)
      (∃ k49, k49 < k48 ∧ I47 (IntKind.i64.wrap (v_50 + (1 : Int))) w87 k49))))) ∧
    (∃ x89 : Bool, w51.drew.cell? a72 = some (.bool x89) ∧ 
      Calls Try.prog 53 #[.pointer h_, .int .i64 v_50] w51.drew fun e w90 => ∃ r91 : Bool, e = .returned (.bool r91) ∧ 
      cnd (!(r91 == x89))
      ((K (.bool false) w90) ∧
    ((K (.bool false) w90) ∧
    (K (.bool false) w90)))
      ((Calls Try.prog 48 #[.pointer h_, .int .i64 v_50] w90 fun e w92 => ∃ r93 : Int, e = .returned (.int .i64 r93) ∧ 
      ∃ x94_p : Option Addr, ∃ x94_n : Nat, ∃ x94_c : Nat, w92.cell? ((Addr.mk n1 0 none).add 1) = some (.slice x94_p x94_n x94_c) ∧ 
      ixK x94_p x94_n v_50 1 fun a95 =>
      ∃ x96 : Int, w92.cell? a95 = some (.int .i64 x96) ∧ 
      cnd (r93 != x96)
      (K (.bool false) w92)
      (∃ k49, k49 < k48 ∧ I47 (IntKind.i64.wrap (v_50 + (1 : Int))) w92 k49)) ∧
    (∃ x97_p : Option Addr, ∃ x97_n : Nat, ∃ x97_c : Nat, w90.cell? ((Addr.mk n1 0 none).add 1) = some (.slice x97_p x97_n x97_c) ∧ 
      ixK x97_p x97_n v_50 1 fun a98 =>
      (Calls Try.prog 48 #[.pointer h_, .int .i64 v_50] w90 fun e w99 => ∃ r100 : Int, e = .returned (.int .i64 r100) ∧ 
      ∃ x101 : Int, w99.cell? a98 = some (.int .i64 x101) ∧ 
      cnd (r100 != x101)
      (K (.bool false) w99)
      (∃ k49, k49 < k48 ∧ I47 (IntKind.i64.wrap (v_50 + (1 : Int))) w99 k49)) ∧
    (∃ x102 : Int, w90.cell? a98 = some (.int .i64 x102) ∧ 
      Calls Try.prog 48 #[.pointer h_, .int .i64 v_50] w90 fun e w103 => ∃ r104 : Int, e = .returned (.int .i64 r104) ∧ 
      cnd (r104 != x102)
      (K (.bool false) w103)
      (∃ k49, k49 < k48 ∧ I47 (IntKind.i64.wrap (v_50 + (1 : Int))) w103 k49)))))))
    (Calls Try.prog 53 #[.pointer h_, .int .i64 0] w51 fun e w105 => ∃ r106 : Bool, e = .returned (.bool r106) ∧ 
      cnd (!r106)
      (∃ x107_p : Option Addr, ∃ x107_n : Nat, ∃ x107_c : Nat, w105.cell? ((Addr.mk n1 0 none).add 0) = some (.slice x107_p x107_n x107_c) ∧ 
      Calls Try.prog 53 #[.pointer h_, .int .i64 (x107_n : Int)] w105 fun e w108 => ∃ r109 : Bool, e = .returned (.bool r109) ∧ 
      cnd (!r109)
      (Calls Try.prog 48 #[.pointer h_, .int .i64 (-1)] w108 fun e w110 => ∃ r111 : Int, e = .returned (.int .i64 r111) ∧ 
      K (.bool (r111 == (0 : Int))) w110)
      (K (.bool false) w108))
      (K (.bool false) w105))
theorem fathomlaw09_like.eq (h_ : Option Addr) (w1_0_p : Option Addr) (w1_0_n : Nat) (w1_0_c : Nat) (w1_1_p : Option Addr) (w1_1_n : Nat) (w1_1_c : Nat) (w1_2 : Int) (w : World) (K : Value → World → Prop) : wpF Try.prog Try.f47 (.two .leaf (.two .leaf (.two .leaf (.cut [] .leaf (.two (.two .leaf (.one (.loop [(8, 3)] .leaf))) .leaf))))) [.pointer h_, .agg #[.slice w1_0_p w1_0_n w1_0_c, .slice w1_1_p w1_1_n w1_1_c, .int .i64 w1_2]] w K = fathomlaw09_like.w h_ w1_0_p w1_0_n w1_0_c w1_1_p w1_1_n w1_1_c w1_2 w K := by kernel_rfl
theorem fathomlaw09_like.ok : fnOk Try.prog Try.f47 2 = true := by kernel_rfl
theorem fathomlaw09_like.calls {h_ : Option Addr} {w1_0_p : Option Addr} {w1_0_n : Nat} {w1_0_c : Nat} {w1_1_p : Option Addr} {w1_1_n : Nat} {w1_1_c : Nat} {w1_2 : Int} {w : World} {R : Ending → World → Prop} (h : fathomlaw09_like.w h_ w1_0_p w1_0_n w1_0_c w1_1_p w1_1_n w1_1_c w1_2 w fun v w' => R (.returned v) w') : Calls Try.prog 47 #[.pointer h_, .agg #[.slice w1_0_p w1_0_n w1_0_c, .slice w1_1_p w1_1_n w1_1_c, .int .i64 w1_2]] w R :=
  calls_of mixed Try.func47 fathomlaw09_like.ok rfl (fun K => fathomlaw09_like.eq h_ w1_0_p w1_0_n w1_0_c w1_1_p w1_1_n w1_1_c w1_2 w K) h

/-! ### (*fathom/heap.Heap).Score: function 48 (named slots 5) -/
def heap_Heap_Score.w (h_ : Option Addr) (v_ : Int) (w : World) (K : Value → World → Prop) : Prop :=
  Calls Try.prog 76 #[.pointer h_, .int .i64 v_] w fun e w1 => ∃ r2 : Bool, e = .returned (.bool r2) ∧ 
  cnd (!r2)
  (K (.int .i64 0) w1)
  (∃ a3 : Addr, h_ = some a3 ∧ ∃ x4_p : Option Addr, ∃ x4_n : Nat, ∃ x4_c : Nat, w1.cell? (a3.add 2) = some (.slice x4_p x4_n x4_c) ∧ 
    ixK x4_p x4_n v_ 1 fun a5 =>
    ∃ x6 : Int, w1.cell? a5 = some (.int .i64 x6) ∧ 
    K (.int .i64 x6) w1)
theorem heap_Heap_Score.eq (h_ : Option Addr) (v_ : Int) (w : World) (K : Value → World → Prop) : wpF Try.prog Try.f48 .leaf [.pointer h_, .int .i64 v_] w K = heap_Heap_Score.w h_ v_ w K := by kernel_rfl
theorem heap_Heap_Score.ok : fnOk Try.prog Try.f48 2 = true := by kernel_rfl
theorem heap_Heap_Score.calls {h_ : Option Addr} {v_ : Int} {w : World} {R : Ending → World → Prop} (h : heap_Heap_Score.w h_ v_ w fun v w' => R (.returned v) w') : Calls Try.prog 48 #[.pointer h_, .int .i64 v_] w R :=
  calls_of mixed Try.func48 heap_Heap_Score.ok rfl (fun K => heap_Heap_Score.eq h_ v_ w K) h

/-! ### (*fathom/heap.Heap).Decay: function 49 (named slots 2) -/
def heap_Heap_Decay.w (h_ : Option Addr) (w : World) (K : Value → World → Prop) : Prop :=
  cnd h_.isNone
  (K (.tuple #[]) w)
  (∃ a1 : Addr, h_ = some a1 ∧ ∃ x2_p : Option Addr, ∃ x2_n : Nat, ∃ x2_c : Nat, w.cell? (a1.add 1) = some (.slice x2_p x2_n x2_c) ∧ 
  cnd x2_p.isNone
  (K (.tuple #[]) w)
  (∃ a3 : Addr, h_ = some a3 ∧ ∃ x4 : Int, w.drew.cell? (a3.add 3) = some (.int .i64 x4) ∧ 
    ∃ a5 : Addr, h_ = some a5 ∧ ∃ x6 : Int, w.drew.cell? (a5.add 3) = some (.int .i64 x6) ∧ 
    (16 : Int) ≠ 0 ∧ ∃ a7 : Addr, h_ = some a7 ∧ ∃ w8 : World, StoreAt (a7.add 3) 0 [.int .i64 (IntKind.i64.wrap (x4 + (IntKind.i64.wrap ((IntKind.i64.wrap (x6.tdiv (16 : Int))) + (1 : Int)))))] w.drew w8 ∧ 
    Calls Try.prog 77 #[.pointer h_, .int .i64 0] w8 fun e w9 => e = .returned (.tuple #[]) ∧ 
    K (.tuple #[]) w9))
theorem heap_Heap_Decay.eq (h_ : Option Addr) (w : World) (K : Value → World → Prop) : wpF Try.prog Try.f49 .leaf [.pointer h_] w K = heap_Heap_Decay.w h_ w K := by kernel_rfl
theorem heap_Heap_Decay.ok : fnOk Try.prog Try.f49 1 = true := by kernel_rfl
theorem heap_Heap_Decay.calls {h_ : Option Addr} {w : World} {R : Ending → World → Prop} (h : heap_Heap_Decay.w h_ w fun v w' => R (.returned v) w') : Calls Try.prog 49 #[.pointer h_] w R :=
  calls_of mixed Try.func49 heap_Heap_Decay.ok rfl (fun K => heap_Heap_Decay.eq h_ w K) h

/-! ### fathom/fathomref09.Decay: function 50 (named slots 3) -/
def fathomref09_Decay.w (h_0_p : Option Addr) (h_0_n : Nat) (h_0_c : Nat) (h_1_p : Option Addr) (h_1_n : Nat) (h_1_c : Nat) (h_2 : Int) (w : World) (K : Value → World → Prop) : Prop :=
  ∀ (n1 : Nat) (w2 : World), New (.cells #[.slice h_0_p h_0_n h_0_c, .slice h_1_p h_1_n h_1_c, .int .i64 h_2] 74) w n1 w2 → 
  ∀ (n3 : Nat) (w4 : World), New (.cells #[.slice none 0 0, .slice none 0 0, .int .i64 0] 74) w2 n3 w4 → 
  ∃ x5 : Int, w4.cell? ((Addr.mk n1 0 none).add 2) = some (.int .i64 x5) ∧ 
  ∃ x6 : Int, w4.cell? ((Addr.mk n1 0 none).add 2) = some (.int .i64 x6) ∧ 
  (16 : Int) ≠ 0 ∧ ∃ w7 : World, StoreAt ((Addr.mk n1 0 none).add 2) 0 [.int .i64 (IntKind.i64.wrap ((IntKind.i64.wrap (x5 + (IntKind.i64.wrap (x6.tdiv (16 : Int))))) + (1 : Int)))] w4 w7 ∧ 
  ∃ x8_p : Option Addr, ∃ x8_n : Nat, ∃ x8_c : Nat, ∃ x9_p : Option Addr, ∃ x9_n : Nat, ∃ x9_c : Nat, ∃ x10 : Int, CellsAt w7 (Addr.mk n1 0 none) 0 [.slice x8_p x8_n x8_c, .slice x9_p x9_n x9_c, .int .i64 x10] ∧ 
  Calls Try.prog 78 #[.agg #[.slice x8_p x8_n x8_c, .slice x9_p x9_n x9_c, .int .i64 x10]] w7 fun e w11 => ∃ r12_p : Option Addr, ∃ r12_n : Nat, ∃ r12_c : Nat, ∃ r13_p : Option Addr, ∃ r13_n : Nat, ∃ r13_c : Nat, ∃ r14 : Int, e = .returned (.agg #[.slice r12_p r12_n r12_c, .slice r13_p r13_n r13_c, .int .i64 r14]) ∧ 
  ∃ w15 : World, StoreAt (Addr.mk n3 0 none) 0 [.slice r12_p r12_n r12_c, .slice r13_p r13_n r13_c, .int .i64 r14] w11 w15 ∧ 
  ∃ x16_p : Option Addr, ∃ x16_n : Nat, ∃ x16_c : Nat, ∃ x17_p : Option Addr, ∃ x17_n : Nat, ∃ x17_c : Nat, ∃ x18 : Int, CellsAt w15 (Addr.mk n3 0 none) 0 [.slice x16_p x16_n x16_c, .slice x17_p x17_n x17_c, .int .i64 x18] ∧ 
  K (.agg #[.slice x16_p x16_n x16_c, .slice x17_p x17_n x17_c, .int .i64 x18]) w15
theorem fathomref09_Decay.eq (h_0_p : Option Addr) (h_0_n : Nat) (h_0_c : Nat) (h_1_p : Option Addr) (h_1_n : Nat) (h_1_c : Nat) (h_2 : Int) (w : World) (K : Value → World → Prop) : wpF Try.prog Try.f50 .leaf [.agg #[.slice h_0_p h_0_n h_0_c, .slice h_1_p h_1_n h_1_c, .int .i64 h_2]] w K = fathomref09_Decay.w h_0_p h_0_n h_0_c h_1_p h_1_n h_1_c h_2 w K := by kernel_rfl
theorem fathomref09_Decay.ok : fnOk Try.prog Try.f50 1 = true := by kernel_rfl
theorem fathomref09_Decay.calls {h_0_p : Option Addr} {h_0_n : Nat} {h_0_c : Nat} {h_1_p : Option Addr} {h_1_n : Nat} {h_1_c : Nat} {h_2 : Int} {w : World} {R : Ending → World → Prop} (h : fathomref09_Decay.w h_0_p h_0_n h_0_c h_1_p h_1_n h_1_c h_2 w fun v w' => R (.returned v) w') : Calls Try.prog 50 #[.agg #[.slice h_0_p h_0_n h_0_c, .slice h_1_p h_1_n h_1_c, .int .i64 h_2]] w R :=
  calls_of mixed Try.func50 fathomref09_Decay.ok rfl (fun K => fathomref09_Decay.eq h_0_p h_0_n h_0_c h_1_p h_1_n h_1_c h_2 w K) h

/-! ### (*fathom/heap.Heap).Step: function 51 (named slots 3) -/
def heap_Heap_Step.w (h_ : Option Addr) (w : World) (K : Value → World → Prop) : Prop :=
  cnd h_.isNone
  (K (.int .i64 0) w)
  (∃ a1 : Addr, h_ = some a1 ∧ ∃ x2 : Int, w.cell? (a1.add 3) = some (.int .i64 x2) ∧ 
    K (.int .i64 x2) w)
theorem heap_Heap_Step.eq (h_ : Option Addr) (w : World) (K : Value → World → Prop) : wpF Try.prog Try.f51 .leaf [.pointer h_] w K = heap_Heap_Step.w h_ w K := by kernel_rfl
theorem heap_Heap_Step.ok : fnOk Try.prog Try.f51 1 = true := by kernel_rfl
theorem heap_Heap_Step.calls {h_ : Option Addr} {w : World} {R : Ending → World → Prop} (h : heap_Heap_Step.w h_ w fun v w' => R (.returned v) w') : Calls Try.prog 51 #[.pointer h_] w R :=
  calls_of mixed Try.func51 heap_Heap_Step.ok rfl (fun K => heap_Heap_Step.eq h_ w K) h

/-! ### fathom/heap.New: function 52 (named slots 6) -/
def heap_New.w (n_ : Int) (w : World) (K : Value → World → Prop) : Prop :=
  cnd (decide (n_ < (0 : Int)))
  (K (.tuple #[.pointer none, .int .i64 1]) w)
  (cnd (decide (n_ > (1048576 : Int)))
  (K (.tuple #[.pointer none, .int .i64 1]) w)
  ((∃ w1 : World, ∃ r2_p : Option Addr, ∃ r2_n : Nat, ∃ r2_c : Nat, (Instr.makeSlice 49 (.int .i64 (IntKind.i64.wrap (n_ + (1 : Int)))) (.int .i64 (IntKind.i64.wrap (n_ + (1 : Int))))).run Try.prog w.drew = .ok (.slice r2_p r2_n r2_c) w1 ∧ 
    ∃ w3 : World, ∃ r4_p : Option Addr, ∃ r4_n : Nat, ∃ r4_c : Nat, (Instr.makeSlice 49 (.int .i64 (IntKind.i64.wrap (n_ + (1 : Int)))) (.int .i64 (IntKind.i64.wrap (n_ + (1 : Int))))).run Try.prog w1 = .ok (.slice r4_p r4_n r4_c) w3 ∧ 
    ∀ (n5 : Nat) (w6 : World), New (.cells #[.slice none 0 0, .slice r2_p r2_n r2_c, .slice r4_p r4_n r4_c, .int .i64 64] 89) w3 n5 w6 → 
    ∃ I7 : Int → World → Nat → Prop, (∃ k8, I7 1 w6 k8) ∧
    ∀ (v_10 : Int) (w11 : World) (k8 : Nat) (_ : Fr), I7 v_10 w11 k8 →
    cnd (decide (v_10 ≤ n_))
      (∃ a12 : Addr, (some (Addr.mk n5 0 none)) = some a12 ∧ ∃ x13_p : Option Addr, ∃ x13_n : Nat, ∃ x13_c : Nat, w11.cell? (a12.add 0) = some (.slice x13_p x13_n x13_c) ∧ 
        ∀ (n14 : Nat) (w15 : World), New (.cells #[.int .i64 v_10] 3) w11 n14 w15 → 
        ∃ w16 : World, ∃ r17_p : Option Addr, ∃ r17_n : Nat, ∃ r17_c : Nat, (Builtin.append_ #[49, 49] 49 #[.slice x13_p x13_n x13_c, .slice (some (Addr.mk n14 0 none)) 1 1]).run Try.prog w15 = .ok (.slice r17_p r17_n r17_c) w16 ∧ 
        ∃ a18 : Addr, (some (Addr.mk n5 0 none)) = some a18 ∧ ∃ w19 : World, StoreAt (a18.add 0) 0 [.slice r17_p r17_n r17_c] w16 w19 ∧ 
        ∃ a20 : Addr, (some (Addr.mk n5 0 none)) = some a20 ∧ ∃ x21_p : Option Addr, ∃ x21_n : Nat, ∃ x21_c : Nat, w19.cell? (a20.add 1) = some (.slice x21_p x21_n x21_c) ∧ 
        ixK x21_p x21_n v_10 1 fun a22 =>
        ∃ w23 : World, StoreAt a22 0 [.int .i64 v_10] w19 w23 ∧ 
        ∃ k9, k9 < k8 ∧ I7 (IntKind.i64.wrap (v_10 + (1 : Int))) w23 k9)
      (K (.tuple #[.pointer (some (Addr.mk n5 0 none)), .int .i64 0]) w11)) ∧
  (∃ w24 : World, ∃ r25_p : Option Addr, ∃ r25_n : Nat, ∃ r25_c : Nat, (Instr.makeSlice 49 (.int .i64 (IntKind.i64.wrap (n_ + (1 : Int)))) (.int .i64 (IntKind.i64.wrap (n_ + (1 : Int))))).run Try.prog w.drew = .ok (.slice r25_p r25_n r25_c) w24 ∧ 
    ∃ w26 : World, ∃ r27_p : Option Addr, ∃ r27_n : Nat, ∃ r27_c : Nat, (Instr.makeSlice 49 (.int .i64 (IntKind.i64.wrap (n_ + (1 : Int)))) (.int .i64 (IntKind.i64.wrap (n_ + (1 : Int))))).run Try.prog w24 = .ok (.slice r27_p r27_n r27_c) w26 ∧ 
    ∀ (n28 : Nat) (w29 : World), New (.cells #[.slice none 0 0, .slice r27_p r27_n r27_c, .slice r25_p r25_n r25_c, .int .i64 64] 89) w26 n28 w29 → 
    ∃ I30 : Int → World → Nat → Prop, (∃ k31, I30 1 w29 k31) ∧
    ∀ (v_33 : Int) (w34 : World) (k31 : Nat) (_ : Fr), I30 v_33 w34 k31 →
    cnd (decide (v_33 ≤ n_))
      (∃ a35 : Addr, (some (Addr.mk n28 0 none)) = some a35 ∧ ∃ x36_p : Option Addr, ∃ x36_n : Nat, ∃ x36_c : Nat, w34.cell? (a35.add 0) = some (.slice x36_p x36_n x36_c) ∧ 
        ∀ (n37 : Nat) (w38 : World), New (.cells #[.int .i64 v_33] 3) w34 n37 w38 → 
        ∃ w39 : World, ∃ r40_p : Option Addr, ∃ r40_n : Nat, ∃ r40_c : Nat, (Builtin.append_ #[49, 49] 49 #[.slice x36_p x36_n x36_c, .slice (some (Addr.mk n37 0 none)) 1 1]).run Try.prog w38 = .ok (.slice r40_p r40_n r40_c) w39 ∧ 
        ∃ a41 : Addr, (some (Addr.mk n28 0 none)) = some a41 ∧ ∃ w42 : World, StoreAt (a41.add 0) 0 [.slice r40_p r40_n r40_c] w39 w42 ∧ 
        ∃ a43 : Addr, (some (Addr.mk n28 0 none)) = some a43 ∧ ∃ x44_p : Option Addr, ∃ x44_n : Nat, ∃ x44_c : Nat, w42.cell? (a43.add 1) = some (.slice x44_p x44_n x44_c) ∧ 
        ixK x44_p x44_n v_33 1 fun a45 =>
        ∃ w46 : World, StoreAt a45 0 [.int .i64 v_33] w42 w46 ∧ 
        ∃ k32, k32 < k31 ∧ I30 (IntKind.i64.wrap (v_33 + (1 : Int))) w46 k32)
      (K (.tuple #[.pointer (some (Addr.mk n28 0 none)), .int .i64 0]) w34))))
theorem heap_New.eq (n_ : Int) (w : World) (K : Value → World → Prop) : wpF Try.prog Try.f52 (.two .leaf (.two .leaf (.two .leaf (.two (.two .leaf (.one (.loop [(5, 3)] .leaf))) .leaf)))) [.int .i64 n_] w K = heap_New.w n_ w K := by kernel_rfl
theorem heap_New.ok : fnOk Try.prog Try.f52 1 = true := by kernel_rfl
theorem heap_New.calls {n_ : Int} {w : World} {R : Ending → World → Prop} (h : heap_New.w n_ w fun v w' => R (.returned v) w') : Calls Try.prog 52 #[.int .i64 n_] w R :=
  calls_of mixed Try.func52 heap_New.ok rfl (fun K => heap_New.eq n_ w K) h

/-! ### (*fathom/heap.Heap).Has: function 53 (named slots 5) -/
def heap_Heap_Has.w (h_ : Option Addr) (v_ : Int) (w : World) (K : Value → World → Prop) : Prop :=
  Calls Try.prog 76 #[.pointer h_, .int .i64 v_] w fun e w1 => ∃ r2 : Bool, e = .returned (.bool r2) ∧ 
  cnd r2
  (∃ a3 : Addr, h_ = some a3 ∧ ∃ x4_p : Option Addr, ∃ x4_n : Nat, ∃ x4_c : Nat, w1.cell? (a3.add 1) = some (.slice x4_p x4_n x4_c) ∧ 
  ixK x4_p x4_n v_ 1 fun a5 =>
  ∃ x6 : Int, w1.cell? a5 = some (.int .i64 x6) ∧ 
  K (.bool (decide (x6 > (0 : Int)))) w1)
  (K (.bool false) w1)
theorem heap_Heap_Has.eq (h_ : Option Addr) (v_ : Int) (w : World) (K : Value → World → Prop) : wpF Try.prog Try.f53 .leaf [.pointer h_, .int .i64 v_] w K = heap_Heap_Has.w h_ v_ w K := by kernel_rfl
theorem heap_Heap_Has.ok : fnOk Try.prog Try.f53 2 = true := by kernel_rfl
theorem heap_Heap_Has.calls {h_ : Option Addr} {v_ : Int} {w : World} {R : Ending → World → Prop} (h : heap_Heap_Has.w h_ v_ w fun v w' => R (.returned v) w') : Calls Try.prog 53 #[.pointer h_, .int .i64 v_] w R :=
  calls_of mixed Try.func53 heap_Heap_Has.ok rfl (fun K => heap_Heap_Has.eq h_ v_ w K) h

/-! ### (*fathom/heap.Heap).Best: function 54 (named slots 4) -/
def heap_Heap_Best.w (h_ : Option Addr) (w : World) (K : Value → World → Prop) : Prop :=
  Calls Try.prog 45 #[.pointer h_] w fun e w1 => ∃ r2 : Int, e = .returned (.int .i64 r2) ∧ 
  cnd (r2 == (0 : Int))
  (K (.tuple #[.int .i64 0, .bool false]) w1)
  (∃ a3 : Addr, h_ = some a3 ∧ ∃ x4_p : Option Addr, ∃ x4_n : Nat, ∃ x4_c : Nat, w1.cell? (a3.add 0) = some (.slice x4_p x4_n x4_c) ∧ 
    ixK x4_p x4_n 0 1 fun a5 =>
    ∃ x6 : Int, w1.cell? a5 = some (.int .i64 x6) ∧ 
    K (.tuple #[.int .i64 x6, .bool true]) w1)
theorem heap_Heap_Best.eq (h_ : Option Addr) (w : World) (K : Value → World → Prop) : wpF Try.prog Try.f54 .leaf [.pointer h_] w K = heap_Heap_Best.w h_ w K := by kernel_rfl
theorem heap_Heap_Best.ok : fnOk Try.prog Try.f54 1 = true := by kernel_rfl
theorem heap_Heap_Best.calls {h_ : Option Addr} {w : World} {R : Ending → World → Prop} (h : heap_Heap_Best.w h_ w fun v w' => R (.returned v) w') : Calls Try.prog 54 #[.pointer h_] w R :=
  calls_of mixed Try.func54 heap_Heap_Best.ok rfl (fun K => heap_Heap_Best.eq h_ w K) h

/-! ### (*fathom/heap.Heap).Push: function 55 (named slots 5) -/
def heap_Heap_Push.w (h_ : Option Addr) (v_ : Int) (w : World) (K : Value → World → Prop) : Prop :=
  Calls Try.prog 76 #[.pointer h_, .int .i64 v_] w fun e w1 => ∃ r2 : Bool, e = .returned (.bool r2) ∧ 
  cnd (!r2)
  (K (.int .i64 1) w1)
  (∃ a3 : Addr, h_ = some a3 ∧ ∃ x4_p : Option Addr, ∃ x4_n : Nat, ∃ x4_c : Nat, w1.cell? (a3.add 1) = some (.slice x4_p x4_n x4_c) ∧ 
    ixK x4_p x4_n v_ 1 fun a5 =>
    ∃ x6 : Int, w1.cell? a5 = some (.int .i64 x6) ∧ 
    cnd (x6 == (0 : Int))
    (∃ a7 : Addr, h_ = some a7 ∧ ∃ x8_p : Option Addr, ∃ x8_n : Nat, ∃ x8_c : Nat, w1.cell? (a7.add 0) = some (.slice x8_p x8_n x8_c) ∧ 
      ∀ (n9 : Nat) (w10 : World), New (.cells #[.int .i64 v_] 3) w1 n9 w10 → 
      ∃ w11 : World, ∃ r12_p : Option Addr, ∃ r12_n : Nat, ∃ r12_c : Nat, (Builtin.append_ #[49, 49] 49 #[.slice x8_p x8_n x8_c, .slice (some (Addr.mk n9 0 none)) 1 1]).run Try.prog w10 = .ok (.slice r12_p r12_n r12_c) w11 ∧ 
      ∃ a13 : Addr, h_ = some a13 ∧ ∃ w14 : World, StoreAt (a13.add 0) 0 [.slice r12_p r12_n r12_c] w11 w14 ∧ 
      ∃ a15 : Addr, h_ = some a15 ∧ ∃ x16_p : Option Addr, ∃ x16_n : Nat, ∃ x16_c : Nat, w14.drew.cell? (a15.add 1) = some (.slice x16_p x16_n x16_c) ∧ 
      ∃ a17 : Addr, h_ = some a17 ∧ ∃ x18_p : Option Addr, ∃ x18_n : Nat, ∃ x18_c : Nat, w14.drew.cell? (a17.add 0) = some (.slice x18_p x18_n x18_c) ∧ 
      ixK x16_p x16_n v_ 1 fun a19 =>
      ∃ w20 : World, StoreAt a19 0 [.int .i64 (x18_n : Int)] w14.drew w20 ∧ 
      ∃ a21 : Addr, h_ = some a21 ∧ ∃ x22_p : Option Addr, ∃ x22_n : Nat, ∃ x22_c : Nat, w20.cell? (a21.add 0) = some (.slice x22_p x22_n x22_c) ∧ 
      Calls Try.prog 79 #[.pointer h_, .int .i64 (IntKind.i64.wrap ((x22_n : Int) - (1 : Int)))] w20 fun e w23 => e = .returned (.tuple #[]) ∧ 
      K (.int .i64 0) w23)
    (K (.int .i64 0) w1))
theorem heap_Heap_Push.eq (h_ : Option Addr) (v_ : Int) (w : World) (K : Value → World → Prop) : wpF Try.prog Try.f55 .leaf [.pointer h_, .int .i64 v_] w K = heap_Heap_Push.w h_ v_ w K := by kernel_rfl
theorem heap_Heap_Push.ok : fnOk Try.prog Try.f55 2 = true := by kernel_rfl
theorem heap_Heap_Push.calls {h_ : Option Addr} {v_ : Int} {w : World} {R : Ending → World → Prop} (h : heap_Heap_Push.w h_ v_ w fun v w' => R (.returned v) w') : Calls Try.prog 55 #[.pointer h_, .int .i64 v_] w R :=
  calls_of mixed Try.func55 heap_Heap_Push.ok rfl (fun K => heap_Heap_Push.eq h_ v_ w K) h

/-! ### (*fathom/heap.Heap).Bump: function 56 (named slots 5) -/
def heap_Heap_Bump.w (h_ : Option Addr) (v_ : Int) (w : World) (K : Value → World → Prop) : Prop :=
  Calls Try.prog 76 #[.pointer h_, .int .i64 v_] w fun e w1 => ∃ r2 : Bool, e = .returned (.bool r2) ∧ 
  cnd (!r2)
  (K (.int .i64 1) w1)
  (∃ a3 : Addr, h_ = some a3 ∧ ∃ x4_p : Option Addr, ∃ x4_n : Nat, ∃ x4_c : Nat, w1.drew.cell? (a3.add 2) = some (.slice x4_p x4_n x4_c) ∧ 
    ixK x4_p x4_n v_ 1 fun a5 =>
    ∃ x6 : Int, w1.drew.cell? a5 = some (.int .i64 x6) ∧ 
    ∃ a7 : Addr, h_ = some a7 ∧ ∃ x8 : Int, w1.drew.cell? (a7.add 3) = some (.int .i64 x8) ∧ 
    ixK x4_p x4_n v_ 1 fun a9 =>
    ∃ w10 : World, StoreAt a9 0 [.int .i64 (IntKind.i64.wrap (x6 + x8))] w1.drew w10 ∧ 
    ∃ a11 : Addr, h_ = some a11 ∧ ∃ x12_p : Option Addr, ∃ x12_n : Nat, ∃ x12_c : Nat, w10.cell? (a11.add 1) = some (.slice x12_p x12_n x12_c) ∧ 
    ixK x12_p x12_n v_ 1 fun a13 =>
    ∃ x14 : Int, w10.cell? a13 = some (.int .i64 x14) ∧ 
    cnd (decide (x14 > (0 : Int)))
    (∃ a15 : Addr, h_ = some a15 ∧ ∃ x16_p : Option Addr, ∃ x16_n : Nat, ∃ x16_c : Nat, w10.cell? (a15.add 1) = some (.slice x16_p x16_n x16_c) ∧ 
      ixK x16_p x16_n v_ 1 fun a17 =>
      ∃ x18 : Int, w10.cell? a17 = some (.int .i64 x18) ∧ 
      Calls Try.prog 79 #[.pointer h_, .int .i64 (IntKind.i64.wrap (x18 - (1 : Int)))] w10 fun e w19 => e = .returned (.tuple #[]) ∧ 
      Calls Try.prog 77 #[.pointer h_, .int .i64 v_] w19 fun e w20 => e = .returned (.tuple #[]) ∧ 
      K (.int .i64 0) w20)
    (Calls Try.prog 77 #[.pointer h_, .int .i64 v_] w10 fun e w21 => e = .returned (.tuple #[]) ∧ 
      K (.int .i64 0) w21))
theorem heap_Heap_Bump.eq (h_ : Option Addr) (v_ : Int) (w : World) (K : Value → World → Prop) : wpF Try.prog Try.f56 .leaf [.pointer h_, .int .i64 v_] w K = heap_Heap_Bump.w h_ v_ w K := by kernel_rfl
theorem heap_Heap_Bump.ok : fnOk Try.prog Try.f56 2 = true := by kernel_rfl
theorem heap_Heap_Bump.calls {h_ : Option Addr} {v_ : Int} {w : World} {R : Ending → World → Prop} (h : heap_Heap_Bump.w h_ v_ w fun v w' => R (.returned v) w') : Calls Try.prog 56 #[.pointer h_, .int .i64 v_] w R :=
  calls_of mixed Try.func56 heap_Heap_Bump.ok rfl (fun K => heap_Heap_Bump.eq h_ v_ w K) h

/-! ### fathom/fathomref09.New: function 71 (named slots 5) -/
def fathomref09_New.w (n_ : Int) (w : World) (K : Value → World → Prop) : Prop :=
  ∀ (n1 : Nat) (w2 : World), New (.cells #[.slice none 0 0, .slice none 0 0, .int .i64 0] 74) w n1 w2 → 
  (∃ w3 : World, ∃ r4_p : Option Addr, ∃ r4_n : Nat, ∃ r4_c : Nat, (Instr.makeSlice 72 (.int .i64 (IntKind.i64.wrap (n_ + (1 : Int)))) (.int .i64 (IntKind.i64.wrap (n_ + (1 : Int))))).run Try.prog w2.drew = .ok (.slice r4_p r4_n r4_c) w3 ∧ 
  (∃ w5 : World, ∃ r6_p : Option Addr, ∃ r6_n : Nat, ∃ r6_c : Nat, (Instr.makeSlice 49 (.int .i64 (IntKind.i64.wrap (n_ + (1 : Int)))) (.int .i64 (IntKind.i64.wrap (n_ + (1 : Int))))).run Try.prog w3 = .ok (.slice r6_p r6_n r6_c) w5 ∧ 
  ∀ (n7 : Nat) (w8 : World), New (.cells #[.slice none 0 0, .slice none 0 0, .int .i64 0] 74) w5 n7 w8 → 
  ∃ w9 : World, StoreAt (Addr.mk n7 0 none) 0 [.slice r4_p r4_n r4_c, .slice r6_p r6_n r6_c, .int .i64 64] w8 w9 ∧ 
  ∃ I10 : Int → World → Nat → Prop, (∃ k11, I10 1 w9 k11) ∧
  ∀ (v_13 : Int) (w14 : World) (k11 : Nat) (_ : Fr), I10 v_13 w14 k11 →
  cnd (decide (v_13 ≤ n_))
    (∃ x15_p : Option Addr, ∃ x15_n : Nat, ∃ x15_c : Nat, w14.cell? ((Addr.mk n7 0 none).add 0) = some (.slice x15_p x15_n x15_c) ∧ 
      ixK x15_p x15_n v_13 1 fun a16 =>
      ∃ w17 : World, StoreAt a16 0 [.bool true] w14 w17 ∧ 
      ∃ k12, k12 < k11 ∧ I10 (IntKind.i64.wrap (v_13 + (1 : Int))) w17 k12)
    (∃ x18_p : Option Addr, ∃ x18_n : Nat, ∃ x18_c : Nat, ∃ x19_p : Option Addr, ∃ x19_n : Nat, ∃ x19_c : Nat, ∃ x20 : Int, CellsAt w14 (Addr.mk n7 0 none) 0 [.slice x18_p x18_n x18_c, .slice x19_p x19_n x19_c, .int .i64 x20] ∧ 
      ∃ w21 : World, StoreAt (Addr.mk n1 0 none) 0 [.slice x18_p x18_n x18_c, .slice x19_p x19_n x19_c, .int .i64 x20] w14 w21 ∧ 
      ∃ x22_p : Option Addr, ∃ x22_n : Nat, ∃ x22_c : Nat, ∃ x23_p : Option Addr, ∃ x23_n : Nat, ∃ x23_c : Nat, ∃ x24 : Int, CellsAt w21 (Addr.mk n1 0 none) 0 [.slice x22_p x22_n x22_c, .slice x23_p x23_n x23_c, .int .i64 x24] ∧ 
      K (.agg #[.slice x22_p x22_n x22_c, .slice x23_p x23_n x23_c, .int .i64 x24]) w21)) ∧
(∀ (n25 : Nat) (w26 : World), New (.cells #[.slice none 0 0, .slice none 0 0, .int .i64 0] 74) w3 n25 w26 → 
  ∃ w27 : World, ∃ r28_p : Option Addr, ∃ r28_n : Nat, ∃ r28_c : Nat, (Instr.makeSlice 49 (.int .i64 (IntKind.i64.wrap (n_ + (1 : Int)))) (.int .i64 (IntKind.i64.wrap (n_ + (1 : Int))))).run Try.prog w26 = .ok (.slice r28_p r28_n r28_c) w27 ∧ 
  ∃ w29 : World, StoreAt (Addr.mk n25 0 none) 0 [.slice r4_p r4_n r4_c, .slice r28_p r28_n r28_c, .int .i64 64] w27 w29 ∧ 
  ∃ I30 : Int → World → Nat → Prop, (∃ k31, I30 1 w29 k31) ∧
  ∀ (v_33 : Int) (w34 : World) (k31 : Nat) (_ : Fr), I30 v_33 w34 k31 →
  cnd (decide (v_33 ≤ n_))
    (∃ x35_p : Option Addr, ∃ x35_n : Nat, ∃ x35_c : Nat, w34.cell? ((Addr.mk n25 0 none).add 0) = some (.slice x35_p x35_n x35_c) ∧ 
      ixK x35_p x35_n v_33 1 fun a36 =>
      ∃ w37 : World, StoreAt a36 0 [.bool true] w34 w37 ∧ 
      ∃ k32, k32 < k31 ∧ I30 (IntKind.i64.wrap (v_33 + (1 : Int))) w37 k32)
    (∃ x38_p : Option Addr, ∃ x38_n : Nat, ∃ x38_c : Nat, ∃ x39_p : Option Addr, ∃ x39_n : Nat, ∃ x39_c : Nat, ∃ x40 : Int, CellsAt w34 (Addr.mk n25 0 none) 0 [.slice x38_p x38_n x38_c, .slice x39_p x39_n x39_c, .int .i64 x40] ∧ 
      ∃ w41 : World, StoreAt (Addr.mk n1 0 none) 0 [.slice x38_p x38_n x38_c, .slice x39_p x39_n x39_c, .int .i64 x40] w34 w41 ∧ 
      ∃ x42_p : Option Addr, ∃ x42_n : Nat, ∃ x42_c : Nat, ∃ x43_p : Option Addr, ∃ x43_n : Nat, ∃ x43_c : Nat, ∃ x44 : Int, CellsAt w41 (Addr.mk n1 0 none) 0 [.slice x42_p x42_n x42_c, .slice x43_p x43_n x43_c, .int .i64 x44] ∧ 
      K (.agg #[.slice x42_p x42_n x42_c, .slice x43_p x43_n x43_c, .int .i64 x44]) w41))) ∧
(∃ w45 : World, ∃ r46_p : Option Addr, ∃ r46_n : Nat, ∃ r46_c : Nat, (Instr.makeSlice 49 (.int .i64 (IntKind.i64.wrap (n_ + (1 : Int)))) (.int .i64 (IntKind.i64.wrap (n_ + (1 : Int))))).run Try.prog w2.drew = .ok (.slice r46_p r46_n r46_c) w45 ∧ 
  (∃ w47 : World, ∃ r48_p : Option Addr, ∃ r48_n : Nat, ∃ r48_c : Nat, (Instr.makeSlice 72 (.int .i64 (IntKind.i64.wrap (n_ + (1 : Int)))) (.int .i64 (IntKind.i64.wrap (n_ + (1 : Int))))).run Try.prog w45 = .ok (.slice r48_p r48_n r48_c) w47 ∧ 
  ∀ (n49 : Nat) (w50 : World), New (.cells #[.slice none 0 0, .slice none 0 0, .int .i64 0] 74) w47 n49 w50 → 
  ∃ w51 : World, StoreAt (Addr.mk n49 0 none) 0 [.slice r48_p r48_n r48_c, .slice r46_p r46_n r46_c, .int .i64 64] w50 w51 ∧ 
  ∃ I52 : Int → World → Nat → Prop, (∃ k53, I52 1 w51 k53) ∧
  ∀ (v_55 : Int) (w56 : World) (k53 : Nat) (_ : Fr), I52 v_55 w56 k53 →
  cnd (decide (v_55 ≤ n_))
    (∃ x57_p : Option Addr, ∃ x57_n : Nat, ∃ x57_c : Nat, w56.cell? ((Addr.mk n49 0 none).add 0) = some (.slice x57_p x57_n x57_c) ∧ 
      ixK x57_p x57_n v_55 1 fun a58 =>
      ∃ w59 : World, StoreAt a58 0 [.bool true] w56 w59 ∧ 
      ∃ k54, k54 < k53 ∧ I52 (IntKind.i64.wrap (v_55 + (1 : Int))) w59 k54)
    (∃ x60_p : Option Addr, ∃ x60_n : Nat, ∃ x60_c : Nat, ∃ x61_p : Option Addr, ∃ x61_n : Nat, ∃ x61_c : Nat, ∃ x62 : Int, CellsAt w56 (Addr.mk n49 0 none) 0 [.slice x60_p x60_n x60_c, .slice x61_p x61_n x61_c, .int .i64 x62] ∧ 
      ∃ w63 : World, StoreAt (Addr.mk n1 0 none) 0 [.slice x60_p x60_n x60_c, .slice x61_p x61_n x61_c, .int .i64 x62] w56 w63 ∧ 
      ∃ x64_p : Option Addr, ∃ x64_n : Nat, ∃ x64_c : Nat, ∃ x65_p : Option Addr, ∃ x65_n : Nat, ∃ x65_c : Nat, ∃ x66 : Int, CellsAt w63 (Addr.mk n1 0 none) 0 [.slice x64_p x64_n x64_c, .slice x65_p x65_n x65_c, .int .i64 x66] ∧ 
      K (.agg #[.slice x64_p x64_n x64_c, .slice x65_p x65_n x65_c, .int .i64 x66]) w63)) ∧
(∀ (n67 : Nat) (w68 : World), New (.cells #[.slice none 0 0, .slice none 0 0, .int .i64 0] 74) w45 n67 w68 → 
  ∃ w69 : World, ∃ r70_p : Option Addr, ∃ r70_n : Nat, ∃ r70_c : Nat, (Instr.makeSlice 72 (.int .i64 (IntKind.i64.wrap (n_ + (1 : Int)))) (.int .i64 (IntKind.i64.wrap (n_ + (1 : Int))))).run Try.prog w68 = .ok (.slice r70_p r70_n r70_c) w69 ∧ 
  ∃ w71 : World, StoreAt (Addr.mk n67 0 none) 0 [.slice r70_p r70_n r70_c, .slice r46_p r46_n r46_c, .int .i64 64] w69 w71 ∧ 
  ∃ I72 : Int → World → Nat → Prop, (∃ k73, I72 1 w71 k73) ∧
  ∀ (v_75 : Int) (w76 : World) (k73 : Nat) (_ : Fr), I72 v_75 w76 k73 →
  cnd (decide (v_75 ≤ n_))
    (∃ x77_p : Option Addr, ∃ x77_n : Nat, ∃ x77_c : Nat, w76.cell? ((Addr.mk n67 0 none).add 0) = some (.slice x77_p x77_n x77_c) ∧ 
      ixK x77_p x77_n v_75 1 fun a78 =>
      ∃ w79 : World, StoreAt a78 0 [.bool true] w76 w79 ∧ 
      ∃ k74, k74 < k73 ∧ I72 (IntKind.i64.wrap (v_75 + (1 : Int))) w79 k74)
    (∃ x80_p : Option Addr, ∃ x80_n : Nat, ∃ x80_c : Nat, ∃ x81_p : Option Addr, ∃ x81_n : Nat, ∃ x81_c : Nat, ∃ x82 : Int, CellsAt w76 (Addr.mk n67 0 none) 0 [.slice x80_p x80_n x80_c, .slice x81_p x81_n x81_c, .int .i64 x82] ∧ 
      ∃ w83 : World, StoreAt (Addr.mk n1 0 none) 0 [.slice x80_p x80_n x80_c, .slice x81_p x81_n x81_c, .int .i64 x82] w76 w83 ∧ 
      ∃ x84_p : Option Addr, ∃ x84_n : Nat, ∃ x84_c : Nat, ∃ x85_p : Option Addr, ∃ x85_n : Nat, ∃ x85_c : Nat, ∃ x86 : Int, CellsAt w83 (Addr.mk n1 0 none) 0 [.slice x84_p x84_n x84_c, .slice x85_p x85_n x85_c, .int .i64 x86] ∧ 
      K (.agg #[.slice x84_p x84_n x84_c, .slice x85_p x85_n x85_c, .int .i64 x86]) w83))) ∧
(∀ (n87 : Nat) (w88 : World), New (.cells #[.slice none 0 0, .slice none 0 0, .int .i64 0] 74) w2.drew n87 w88 → 
  (∃ w89 : World, ∃ r90_p : Option Addr, ∃ r90_n : Nat, ∃ r90_c : Nat, (Instr.makeSlice 72 (.int .i64 (IntKind.i64.wrap (n_ + (1 : Int)))) (.int .i64 (IntKind.i64.wrap (n_ + (1 : Int))))).run Try.prog w88 = .ok (.slice r90_p r90_n r90_c) w89 ∧ 
  ∃ w91 : World, ∃ r92_p : Option Addr, ∃ r92_n : Nat, ∃ r92_c : Nat, (Instr.makeSlice 49 (.int .i64 (IntKind.i64.wrap (n_ + (1 : Int)))) (.int .i64 (IntKind.i64.wrap (n_ + (1 : Int))))).run Try.prog w89 = .ok (.slice r92_p r92_n r92_c) w91 ∧ 
  ∃ w93 : World, StoreAt (Addr.mk n87 0 none) 0 [.slice r90_p r90_n r90_c, .slice r92_p r92_n r92_c, .int .i64 64] w91 w93 ∧ 
  ∃ I94 : Int → World → Nat → Prop, (∃ k95, I94 1 w93 k95) ∧
  ∀ (v_97 : Int) (w98 : World) (k95 : Nat) (_ : Fr), I94 v_97 w98 k95 →
  cnd (decide (v_97 ≤ n_))
    (∃ x99_p : Option Addr, ∃ x99_n : Nat, ∃ x99_c : Nat, w98.cell? ((Addr.mk n87 0 none).add 0) = some (.slice x99_p x99_n x99_c) ∧ 
      ixK x99_p x99_n v_97 1 fun a100 =>
      ∃ w101 : World, StoreAt a100 0 [.bool true] w98 w101 ∧ 
      ∃ k96, k96 < k95 ∧ I94 (IntKind.i64.wrap (v_97 + (1 : Int))) w101 k96)
    (∃ x102_p : Option Addr, ∃ x102_n : Nat, ∃ x102_c : Nat, ∃ x103_p : Option Addr, ∃ x103_n : Nat, ∃ x103_c : Nat, ∃ x104 : Int, CellsAt w98 (Addr.mk n87 0 none) 0 [.slice x102_p x102_n x102_c, .slice x103_p x103_n x103_c, .int .i64 x104] ∧ 
      ∃ w105 : World, StoreAt (Addr.mk n1 0 none) 0 [.slice x102_p x102_n x102_c, .slice x103_p x103_n x103_c, .int .i64 x104] w98 w105 ∧ 
      ∃ x106_p : Option Addr, ∃ x106_n : Nat, ∃ x106_c : Nat, ∃ x107_p : Option Addr, ∃ x107_n : Nat, ∃ x107_c : Nat, ∃ x108 : Int, CellsAt w105 (Addr.mk n1 0 none) 0 [.slice x106_p x106_n x106_c, .slice x107_p x107_n x107_c, .int .i64 x108] ∧ 
      K (.agg #[.slice x106_p x106_n x106_c, .slice x107_p x107_n x107_c, .int .i64 x108]) w105)) ∧
(∃ w109 : World, ∃ r110_p : Option Addr, ∃ r110_n : Nat, ∃ r110_c : Nat, (Instr.makeSlice 49 (.int .i64 (IntKind.i64.wrap (n_ + (1 : Int)))) (.int .i64 (IntKind.i64.wrap (n_ + (1 : Int))))).run Try.prog w88 = .ok (.slice r110_p r110_n r110_c) w109 ∧ 
  ∃ w111 : World, ∃ r112_p : Option Addr, ∃ r112_n : Nat, ∃ r112_c : Nat, (Instr.makeSlice 72 (.int .i64 (IntKind.i64.wrap (n_ + (1 : Int)))) (.int .i64 (IntKind.i64.wrap (n_ + (1 : Int))))).run Try.prog w109 = .ok (.slice r112_p r112_n r112_c) w111 ∧ 
  ∃ w113 : World, StoreAt (Addr.mk n87 0 none) 0 [.slice r112_p r112_n r112_c, .slice r110_p r110_n r110_c, .int .i64 64] w111 w113 ∧ 
  ∃ I114 : Int → World → Nat → Prop, (∃ k115, I114 1 w113 k115) ∧
  ∀ (v_117 : Int) (w118 : World) (k115 : Nat) (_ : Fr), I114 v_117 w118 k115 →
  cnd (decide (v_117 ≤ n_))
    (∃ x119_p : Option Addr, ∃ x119_n : Nat, ∃ x119_c : Nat, w118.cell? ((Addr.mk n87 0 none).add 0) = some (.slice x119_p x119_n x119_c) ∧ 
      ixK x119_p x119_n v_117 1 fun a120 =>
      ∃ w121 : World, StoreAt a120 0 [.bool true] w118 w121 ∧ 
      ∃ k116, k116 < k115 ∧ I114 (IntKind.i64.wrap (v_117 + (1 : Int))) w121 k116)
    (∃ x122_p : Option Addr, ∃ x122_n : Nat, ∃ x122_c : Nat, ∃ x123_p : Option Addr, ∃ x123_n : Nat, ∃ x123_c : Nat, ∃ x124 : Int, CellsAt w118 (Addr.mk n87 0 none) 0 [.slice x122_p x122_n x122_c, .slice x123_p x123_n x123_c, .int .i64 x124] ∧ 
      ∃ w125 : World, StoreAt (Addr.mk n1 0 none) 0 [.slice x122_p x122_n x122_c, .slice x123_p x123_n x123_c, .int .i64 x124] w118 w125 ∧ 
      ∃ x126_p : Option Addr, ∃ x126_n : Nat, ∃ x126_c : Nat, ∃ x127_p : Option Addr, ∃ x127_n : Nat, ∃ x127_c : Nat, ∃ x128 : Int, CellsAt w125 (Addr.mk n1 0 none) 0 [.slice x126_p x126_n x126_c, .slice x127_p x127_n x127_c, .int .i64 x128] ∧ 
      K (.agg #[.slice x126_p x126_n x126_c, .slice x127_p x127_n x127_c, .int .i64 x128]) w125)))
theorem fathomref09_New.eq (n_ : Int) (w : World) (K : Value → World → Prop) : wpF Try.prog Try.f71 (.two .leaf (.two .leaf (.two (.two .leaf (.one (.loop [(4, 3)] .leaf))) .leaf))) [.int .i64 n_] w K = fathomref09_New.w n_ w K := by kernel_rfl
theorem fathomref09_New.ok : fnOk Try.prog Try.f71 1 = true := by kernel_rfl
theorem fathomref09_New.calls {n_ : Int} {w : World} {R : Ending → World → Prop} (h : fathomref09_New.w n_ w fun v w' => R (.returned v) w') : Calls Try.prog 71 #[.int .i64 n_] w R :=
  calls_of mixed Try.func71 fathomref09_New.ok rfl (fun K => fathomref09_New.eq n_ w K) h

/-! ### fathom/fathomref09.Bump: function 72 (named slots 5) -/
def fathomref09_Bump.w (h_0_p : Option Addr) (h_0_n : Nat) (h_0_c : Nat) (h_1_p : Option Addr) (h_1_n : Nat) (h_1_c : Nat) (h_2 : Int) (v_ : Int) (w : World) (K : Value → World → Prop) : Prop :=
  ∀ (n1 : Nat) (w2 : World), New (.cells #[.slice h_0_p h_0_n h_0_c, .slice h_1_p h_1_n h_1_c, .int .i64 h_2] 74) w n1 w2 → 
  ∀ (n3 : Nat) (w4 : World), New (.cells #[.slice none 0 0, .slice none 0 0, .int .i64 0] 74) w2 n3 w4 → 
  ∀ (n5 : Nat) (w6 : World), New (.cells #[] 3) w4 n5 w6 → 
  ∃ x7_p : Option Addr, ∃ x7_n : Nat, ∃ x7_c : Nat, w6.cell? ((Addr.mk n1 0 none).add 1) = some (.slice x7_p x7_n x7_c) ∧ 
  ∃ w8 : World, ∃ r9_p : Option Addr, ∃ r9_n : Nat, ∃ r9_c : Nat, (Builtin.append_ #[49, 49] 49 #[.slice (some (Addr.mk n5 0 none)) 0 0, .slice x7_p x7_n x7_c]).run Try.prog w6 = .ok (.slice r9_p r9_n r9_c) w8 ∧ 
  ∃ w10 : World, StoreAt ((Addr.mk n1 0 none).add 1) 0 [.slice r9_p r9_n r9_c] w8 w10 ∧ 
  ∃ x11_p : Option Addr, ∃ x11_n : Nat, ∃ x11_c : Nat, w10.drew.cell? ((Addr.mk n1 0 none).add 1) = some (.slice x11_p x11_n x11_c) ∧ 
  ∃ x12_p : Option Addr, ∃ x12_n : Nat, ∃ x12_c : Nat, w10.drew.cell? ((Addr.mk n1 0 none).add 1) = some (.slice x12_p x12_n x12_c) ∧ 
  ixK x12_p x12_n v_ 1 fun a13 =>
  ∃ x14 : Int, w10.drew.cell? a13 = some (.int .i64 x14) ∧ 
  ∃ x15 : Int, w10.drew.cell? ((Addr.mk n1 0 none).add 2) = some (.int .i64 x15) ∧ 
  ixK x11_p x11_n v_ 1 fun a16 =>
  ∃ w17 : World, StoreAt a16 0 [.int .i64 (IntKind.i64.wrap (x14 + x15))] w10.drew w17 ∧ 
  ∃ x18_p : Option Addr, ∃ x18_n : Nat, ∃ x18_c : Nat, ∃ x19_p : Option Addr, ∃ x19_n : Nat, ∃ x19_c : Nat, ∃ x20 : Int, CellsAt w17 (Addr.mk n1 0 none) 0 [.slice x18_p x18_n x18_c, .slice x19_p x19_n x19_c, .int .i64 x20] ∧ 
  Calls Try.prog 78 #[.agg #[.slice x18_p x18_n x18_c, .slice x19_p x19_n x19_c, .int .i64 x20]] w17 fun e w21 => ∃ r22_p : Option Addr, ∃ r22_n : Nat, ∃ r22_c : Nat, ∃ r23_p : Option Addr, ∃ r23_n : Nat, ∃ r23_c : Nat, ∃ r24 : Int, e = .returned (.agg #[.slice r22_p r22_n r22_c, .slice r23_p r23_n r23_c, .int .i64 r24]) ∧ 
  ∃ w25 : World, StoreAt (Addr.mk n3 0 none) 0 [.slice r22_p r22_n r22_c, .slice r23_p r23_n r23_c, .int .i64 r24] w21 w25 ∧ 
  ∃ x26_p : Option Addr, ∃ x26_n : Nat, ∃ x26_c : Nat, ∃ x27_p : Option Addr, ∃ x27_n : Nat, ∃ x27_c : Nat, ∃ x28 : Int, CellsAt w25 (Addr.mk n3 0 none) 0 [.slice x26_p x26_n x26_c, .slice x27_p x27_n x27_c, .int .i64 x28] ∧ 
  K (.agg #[.slice x26_p x26_n x26_c, .slice x27_p x27_n x27_c, .int .i64 x28]) w25
theorem fathomref09_Bump.eq (h_0_p : Option Addr) (h_0_n : Nat) (h_0_c : Nat) (h_1_p : Option Addr) (h_1_n : Nat) (h_1_c : Nat) (h_2 : Int) (v_ : Int) (w : World) (K : Value → World → Prop) : wpF Try.prog Try.f72 .leaf [.agg #[.slice h_0_p h_0_n h_0_c, .slice h_1_p h_1_n h_1_c, .int .i64 h_2], .int .i64 v_] w K = fathomref09_Bump.w h_0_p h_0_n h_0_c h_1_p h_1_n h_1_c h_2 v_ w K := by kernel_rfl
theorem fathomref09_Bump.ok : fnOk Try.prog Try.f72 2 = true := by kernel_rfl
theorem fathomref09_Bump.calls {h_0_p : Option Addr} {h_0_n : Nat} {h_0_c : Nat} {h_1_p : Option Addr} {h_1_n : Nat} {h_1_c : Nat} {h_2 : Int} {v_ : Int} {w : World} {R : Ending → World → Prop} (h : fathomref09_Bump.w h_0_p h_0_n h_0_c h_1_p h_1_n h_1_c h_2 v_ w fun v w' => R (.returned v) w') : Calls Try.prog 72 #[.agg #[.slice h_0_p h_0_n h_0_c, .slice h_1_p h_1_n h_1_c, .int .i64 h_2], .int .i64 v_] w R :=
  calls_of mixed Try.func72 fathomref09_Bump.ok rfl (fun K => fathomref09_Bump.eq h_0_p h_0_n h_0_c h_1_p h_1_n h_1_c h_2 v_ w K) h

/-! ### fathom/fathomref09.Best: function 73 (named slots 5) -/
def fathomref09_Best.w (h_0_p : Option Addr) (h_0_n : Nat) (h_0_c : Nat) (h_1_p : Option Addr) (h_1_n : Nat) (h_1_c : Nat) (h_2 : Int) (w : World) (K : Value → World → Prop) : Prop :=
  ∀ (n1 : Nat) (w2 : World), New (.cells #[.slice h_0_p h_0_n h_0_c, .slice h_1_p h_1_n h_1_c, .int .i64 h_2] 74) w n1 w2 → 
  ∃ I3 : Int → Int → World → Nat → Prop, (∃ k4, I3 0 1 w2 k4) ∧
  ∀ (best_6 : Int) (v_7 : Int) (w8 : World) (k4 : Nat) (_ : Fr), I3 best_6 v_7 w8 k4 →
  ∃ x9_p : Option Addr, ∃ x9_n : Nat, ∃ x9_c : Nat, w8.cell? ((Addr.mk n1 0 none).add 0) = some (.slice x9_p x9_n x9_c) ∧ 
    cnd (decide (v_7 < (x9_n : Int)))
    (∃ x10_p : Option Addr, ∃ x10_n : Nat, ∃ x10_c : Nat, w8.drew.cell? ((Addr.mk n1 0 none).add 0) = some (.slice x10_p x10_n x10_c) ∧ 
      ixK x10_p x10_n v_7 1 fun a11 =>
      ∃ x12 : Bool, w8.drew.cell? a11 = some (.bool x12) ∧ 
      cnd x12
      (cnd (best_6 == (0 : Int))
      (∃ k5, k5 < k4 ∧ I3 v_7 (IntKind.i64.wrap (v_7 + (1 : Int))) w8.drew k5)
      (∃ x13_p : Option Addr, ∃ x13_n : Nat, ∃ x13_c : Nat, w8.drew.cell? ((Addr.mk n1 0 none).add 1) = some (.slice x13_p x13_n x13_c) ∧ 
      ixK x13_p x13_n v_7 1 fun a14 =>
      ∃ x15 : Int, w8.drew.cell? a14 = some (.int .i64 x15) ∧ 
      ∃ x16_p : Option Addr, ∃ x16_n : Nat, ∃ x16_c : Nat, w8.drew.cell? ((Addr.mk n1 0 none).add 1) = some (.slice x16_p x16_n x16_c) ∧ 
      ixK x16_p x16_n best_6 1 fun a17 =>
      ∃ x18 : Int, w8.drew.cell? a17 = some (.int .i64 x18) ∧ 
      cnd (decide (x15 > x18))
      (∃ k5, k5 < k4 ∧ I3 v_7 (IntKind.i64.wrap (v_7 + (1 : Int))) w8.drew k5)
      (∃ k5, k5 < k4 ∧ I3 best_6 (IntKind.i64.wrap (v_7 + (1 : Int))) w8.drew k5)))
      (∃ k5, k5 < k4 ∧ I3 best_6 (IntKind.i64.wrap (v_7 + (1 : Int))) w8.drew k5))
    (K (.int .i64 best_6) w8)
theorem fathomref09_Best.eq (h_0_p : Option Addr) (h_0_n : Nat) (h_0_c : Nat) (h_1_p : Option Addr) (h_1_n : Nat) (h_1_c : Nat) (h_2 : Int) (w : World) (K : Value → World → Prop) : wpF Try.prog Try.f73 (.two .leaf (.two .leaf (.two (.two .leaf (.one (.loop [(3, 3), (4, 3)] .leaf))) .leaf))) [.agg #[.slice h_0_p h_0_n h_0_c, .slice h_1_p h_1_n h_1_c, .int .i64 h_2]] w K = fathomref09_Best.w h_0_p h_0_n h_0_c h_1_p h_1_n h_1_c h_2 w K := by kernel_rfl
theorem fathomref09_Best.ok : fnOk Try.prog Try.f73 1 = true := by kernel_rfl
theorem fathomref09_Best.calls {h_0_p : Option Addr} {h_0_n : Nat} {h_0_c : Nat} {h_1_p : Option Addr} {h_1_n : Nat} {h_1_c : Nat} {h_2 : Int} {w : World} {R : Ending → World → Prop} (h : fathomref09_Best.w h_0_p h_0_n h_0_c h_1_p h_1_n h_1_c h_2 w fun v w' => R (.returned v) w') : Calls Try.prog 73 #[.agg #[.slice h_0_p h_0_n h_0_c, .slice h_1_p h_1_n h_1_c, .int .i64 h_2]] w R :=
  calls_of mixed Try.func73 fathomref09_Best.ok rfl (fun K => fathomref09_Best.eq h_0_p h_0_n h_0_c h_1_p h_1_n h_1_c h_2 w K) h

/-! ### (*fathom/heap.Heap).put: function 74 (named slots 6) -/
def heap_Heap_put.w (h_ : Option Addr) (i_ : Int) (v_ : Int) (w : World) (K : Value → World → Prop) : Prop :=
  ∃ a1 : Addr, h_ = some a1 ∧ ∃ x2_p : Option Addr, ∃ x2_n : Nat, ∃ x2_c : Nat, w.cell? (a1.add 0) = some (.slice x2_p x2_n x2_c) ∧ 
  ixK x2_p x2_n i_ 1 fun a3 =>
  ∃ w4 : World, StoreAt a3 0 [.int .i64 v_] w w4 ∧ 
  ∃ a5 : Addr, h_ = some a5 ∧ ∃ x6_p : Option Addr, ∃ x6_n : Nat, ∃ x6_c : Nat, w4.cell? (a5.add 1) = some (.slice x6_p x6_n x6_c) ∧ 
  ixK x6_p x6_n v_ 1 fun a7 =>
  ∃ w8 : World, StoreAt a7 0 [.int .i64 (IntKind.i64.wrap (i_ + (1 : Int)))] w4 w8 ∧ 
  K (.tuple #[]) w8
theorem heap_Heap_put.eq (h_ : Option Addr) (i_ : Int) (v_ : Int) (w : World) (K : Value → World → Prop) : wpF Try.prog Try.f74 .leaf [.pointer h_, .int .i64 i_, .int .i64 v_] w K = heap_Heap_put.w h_ i_ v_ w K := by kernel_rfl
theorem heap_Heap_put.ok : fnOk Try.prog Try.f74 3 = true := by kernel_rfl
theorem heap_Heap_put.calls {h_ : Option Addr} {i_ : Int} {v_ : Int} {w : World} {R : Ending → World → Prop} (h : heap_Heap_put.w h_ i_ v_ w fun v w' => R (.returned v) w') : Calls Try.prog 74 #[.pointer h_, .int .i64 i_, .int .i64 v_] w R :=
  calls_of mixed Try.func74 heap_Heap_put.ok rfl (fun K => heap_Heap_put.eq h_ i_ v_ w K) h

/-! ### (*fathom/heap.Heap).fall: function 75 (named slots 6) -/
def heap_Heap_fall.w (h_ : Option Addr) (i_ : Int) (w : World) (K : Value → World → Prop) : Prop :=
  ∃ a1 : Addr, h_ = some a1 ∧ ∃ x2_p : Option Addr, ∃ x2_n : Nat, ∃ x2_c : Nat, w.cell? (a1.add 0) = some (.slice x2_p x2_n x2_c) ∧ 
  ixK x2_p x2_n i_ 1 fun a3 =>
  ∃ x4 : Int, w.cell? a3 = some (.int .i64 x4) ∧ 
  ∃ I5 : Int → World → Nat → Prop, (∃ k6, I5 i_ w k6) ∧
  ∀ (i_8 : Int) (w9 : World) (k6 : Nat) (_ : Fr), I5 i_8 w9 k6 →
  ∃ a10 : Addr, h_ = some a10 ∧ ∃ x11_p : Option Addr, ∃ x11_n : Nat, ∃ x11_c : Nat, w9.cell? (a10.add 0) = some (.slice x11_p x11_n x11_c) ∧ 
    cnd (decide ((IntKind.i64.wrap ((IntKind.i64.wrap ((2 : Int) * i_8)) + (1 : Int))) ≥ (x11_n : Int)))
    (Calls Try.prog 74 #[.pointer h_, .int .i64 i_8, .int .i64 x4] w9 fun e w12 => e = .returned (.tuple #[]) ∧ 
      K (.tuple #[]) w12)
    (∃ a13 : Addr, h_ = some a13 ∧ ∃ x14_p : Option Addr, ∃ x14_n : Nat, ∃ x14_c : Nat, w9.drew.cell? (a13.add 0) = some (.slice x14_p x14_n x14_c) ∧ 
      cnd (decide ((IntKind.i64.wrap ((IntKind.i64.wrap ((IntKind.i64.wrap ((2 : Int) * i_8)) + (1 : Int))) + (1 : Int))) < (x14_n : Int)))
      (∃ a15 : Addr, h_ = some a15 ∧ ∃ x16_p : Option Addr, ∃ x16_n : Nat, ∃ x16_c : Nat, w9.drew.cell? (a15.add 0) = some (.slice x16_p x16_n x16_c) ∧ 
      ixK x16_p x16_n (IntKind.i64.wrap ((IntKind.i64.wrap ((IntKind.i64.wrap ((2 : Int) * i_8)) + (1 : Int))) + (1 : Int))) 1 fun a17 =>
      ∃ x18 : Int, w9.drew.cell? a17 = some (.int .i64 x18) ∧ 
      ∃ a19 : Addr, h_ = some a19 ∧ ∃ x20_p : Option Addr, ∃ x20_n : Nat, ∃ x20_c : Nat, w9.drew.cell? (a19.add 0) = some (.slice x20_p x20_n x20_c) ∧ 
      ixK x20_p x20_n (IntKind.i64.wrap ((IntKind.i64.wrap ((2 : Int) * i_8)) + (1 : Int))) 1 fun a21 =>
      ∃ x22 : Int, w9.drew.cell? a21 = some (.int .i64 x22) ∧ 
      Calls Try.prog 86 #[.pointer h_, .int .i64 x18, .int .i64 x22] w9.drew fun e w23 => ∃ r24 : Bool, e = .returned (.bool r24) ∧ 
      cnd r24
      (∃ a25 : Addr, h_ = some a25 ∧ ∃ x26_p : Option Addr, ∃ x26_n : Nat, ∃ x26_c : Nat, w23.cell? (a25.add 0) = some (.slice x26_p x26_n x26_c) ∧ 
        ixK x26_p x26_n (IntKind.i64.wrap ((IntKind.i64.wrap ((IntKind.i64.wrap ((2 : Int) * i_8)) + (1 : Int))) + (1 : Int))) 1 fun a27 =>
        ∃ x28 : Int, w23.cell? a27 = some (.int .i64 x28) ∧ 
        Calls Try.prog 86 #[.pointer h_, .int .i64 x28, .int .i64 x4] w23 fun e w29 => ∃ r30 : Bool, e = .returned (.bool r30) ∧ 
        cnd (!r30)
        (Calls Try.prog 74 #[.pointer h_, .int .i64 i_8, .int .i64 x4] w29 fun e w31 => e = .returned (.tuple #[]) ∧ 
          K (.tuple #[]) w31)
        (∃ a32 : Addr, h_ = some a32 ∧ ∃ x33_p : Option Addr, ∃ x33_n : Nat, ∃ x33_c : Nat, w29.cell? (a32.add 0) = some (.slice x33_p x33_n x33_c) ∧ 
          ixK x33_p x33_n (IntKind.i64.wrap ((IntKind.i64.wrap ((IntKind.i64.wrap ((2 : Int) * i_8)) + (1 : Int))) + (1 : Int))) 1 fun a34 =>
          ∃ x35 : Int, w29.cell? a34 = some (.int .i64 x35) ∧ 
          Calls Try.prog 74 #[.pointer h_, .int .i64 i_8, .int .i64 x35] w29 fun e w36 => e = .returned (.tuple #[]) ∧ 
          ∃ k7, k7 < k6 ∧ I5 (IntKind.i64.wrap ((IntKind.i64.wrap ((IntKind.i64.wrap ((2 : Int) * i_8)) + (1 : Int))) + (1 : Int))) w36 k7))
      (∃ a37 : Addr, h_ = some a37 ∧ ∃ x38_p : Option Addr, ∃ x38_n : Nat, ∃ x38_c : Nat, w23.cell? (a37.add 0) = some (.slice x38_p x38_n x38_c) ∧ 
        ixK x38_p x38_n (IntKind.i64.wrap ((IntKind.i64.wrap ((2 : Int) * i_8)) + (1 : Int))) 1 fun a39 =>
        ∃ x40 : Int, w23.cell? a39 = some (.int .i64 x40) ∧ 
        Calls Try.prog 86 #[.pointer h_, .int .i64 x40, .int .i64 x4] w23 fun e w41 => ∃ r42 : Bool, e = .returned (.bool r42) ∧ 
        cnd (!r42)
        (Calls Try.prog 74 #[.pointer h_, .int .i64 i_8, .int .i64 x4] w41 fun e w43 => e = .returned (.tuple #[]) ∧ 
          K (.tuple #[]) w43)
        (∃ a44 : Addr, h_ = some a44 ∧ ∃ x45_p : Option Addr, ∃ x45_n : Nat, ∃ x45_c : Nat, w41.cell? (a44.add 0) = some (.slice x45_p x45_n x45_c) ∧ 
          ixK x45_p x45_n (IntKind.i64.wrap ((IntKind.i64.wrap ((2 : Int) * i_8)) + (1 : Int))) 1 fun a46 =>
          ∃ x47 : Int, w41.cell? a46 = some (.int .i64 x47) ∧ 
          Calls Try.prog 74 #[.pointer h_, .int .i64 i_8, .int .i64 x47] w41 fun e w48 => e = .returned (.tuple #[]) ∧ 
          ∃ k7, k7 < k6 ∧ I5 (IntKind.i64.wrap ((IntKind.i64.wrap ((2 : Int) * i_8)) + (1 : Int))) w48 k7)))
      (∃ a49 : Addr, h_ = some a49 ∧ ∃ x50_p : Option Addr, ∃ x50_n : Nat, ∃ x50_c : Nat, w9.drew.cell? (a49.add 0) = some (.slice x50_p x50_n x50_c) ∧ 
      ixK x50_p x50_n (IntKind.i64.wrap ((IntKind.i64.wrap ((2 : Int) * i_8)) + (1 : Int))) 1 fun a51 =>
      ∃ x52 : Int, w9.drew.cell? a51 = some (.int .i64 x52) ∧ 
      Calls Try.prog 86 #[.pointer h_, .int .i64 x52, .int .i64 x4] w9.drew fun e w53 => ∃ r54 : Bool, e = .returned (.bool r54) ∧ 
      cnd (!r54)
      (Calls Try.prog 74 #[.pointer h_, .int .i64 i_8, .int .i64 x4] w53 fun e w55 => e = .returned (.tuple #[]) ∧ 
        K (.tuple #[]) w55)
      (∃ a56 : Addr, h_ = some a56 ∧ ∃ x57_p : Option Addr, ∃ x57_n : Nat, ∃ x57_c : Nat, w53.cell? (a56.add 0) = some (.slice x57_p x57_n x57_c) ∧ 
        ixK x57_p x57_n (IntKind.i64.wrap ((IntKind.i64.wrap ((2 : Int) * i_8)) + (1 : Int))) 1 fun a58 =>
        ∃ x59 : Int, w53.cell? a58 = some (.int .i64 x59) ∧ 
        Calls Try.prog 74 #[.pointer h_, .int .i64 i_8, .int .i64 x59] w53 fun e w60 => e = .returned (.tuple #[]) ∧ 
        ∃ k7, k7 < k6 ∧ I5 (IntKind.i64.wrap ((IntKind.i64.wrap ((2 : Int) * i_8)) + (1 : Int))) w60 k7)))
theorem heap_Heap_fall.eq (h_ : Option Addr) (i_ : Int) (w : World) (K : Value → World → Prop) : wpF Try.prog Try.f75 (.two .leaf (.two (.one (.loop [(1, 3)] .leaf)) .leaf)) [.pointer h_, .int .i64 i_] w K = heap_Heap_fall.w h_ i_ w K := by kernel_rfl
theorem heap_Heap_fall.ok : fnOk Try.prog Try.f75 2 = true := by kernel_rfl
theorem heap_Heap_fall.calls {h_ : Option Addr} {i_ : Int} {w : World} {R : Ending → World → Prop} (h : heap_Heap_fall.w h_ i_ w fun v w' => R (.returned v) w') : Calls Try.prog 75 #[.pointer h_, .int .i64 i_] w R :=
  calls_of mixed Try.func75 heap_Heap_fall.ok rfl (fun K => heap_Heap_fall.eq h_ i_ w K) h

/-! ### (*fathom/heap.Heap).is: function 76 (named slots 5) -/
def heap_Heap_is.w (h_ : Option Addr) (v_ : Int) (w : World) (K : Value → World → Prop) : Prop :=
  cnd (!h_.isNone)
  (cnd (decide (v_ ≥ (1 : Int)))
  (∃ a1 : Addr, h_ = some a1 ∧ ∃ x2_p : Option Addr, ∃ x2_n : Nat, ∃ x2_c : Nat, w.cell? (a1.add 1) = some (.slice x2_p x2_n x2_c) ∧ 
  K (.bool (decide (v_ < (x2_n : Int)))) w)
  (K (.bool false) w))
  (K (.bool false) w)
theorem heap_Heap_is.eq (h_ : Option Addr) (v_ : Int) (w : World) (K : Value → World → Prop) : wpF Try.prog Try.f76 .leaf [.pointer h_, .int .i64 v_] w K = heap_Heap_is.w h_ v_ w K := by kernel_rfl
theorem heap_Heap_is.ok : fnOk Try.prog Try.f76 2 = true := by kernel_rfl
theorem heap_Heap_is.calls {h_ : Option Addr} {v_ : Int} {w : World} {R : Ending → World → Prop} (h : heap_Heap_is.w h_ v_ w fun v w' => R (.returned v) w') : Calls Try.prog 76 #[.pointer h_, .int .i64 v_] w R :=
  calls_of mixed Try.func76 heap_Heap_is.ok rfl (fun K => heap_Heap_is.eq h_ v_ w K) h

/-! ### (*fathom/heap.Heap).scale: function 77 (named slots 6) -/
def heap_Heap_scale.w (h_ : Option Addr) (v_ : Int) (w : World) (K : Value → World → Prop) : Prop :=
  ∃ a1 : Addr, h_ = some a1 ∧ ∃ x2 : Int, w.cell? (a1.add 3) = some (.int .i64 x2) ∧ 
  cnd (decide (x2 ≤ (1099511627776 : Int)))
  (∃ a3 : Addr, h_ = some a3 ∧ ∃ x4_p : Option Addr, ∃ x4_n : Nat, ∃ x4_c : Nat, w.cell? (a3.add 2) = some (.slice x4_p x4_n x4_c) ∧ 
  ixK x4_p x4_n v_ 1 fun a5 =>
  ∃ x6 : Int, w.cell? a5 = some (.int .i64 x6) ∧ 
  cnd (decide (x6 ≤ (1099511627776 : Int)))
  (K (.tuple #[]) w)
  (∃ a7 : Addr, h_ = some a7 ∧ ∃ x8_p : Option Addr, ∃ x8_n : Nat, ∃ x8_c : Nat, w.cell? (a7.add 2) = some (.slice x8_p x8_n x8_c) ∧ 
    ∃ I9 : Int → World → Nat → Prop, (∃ k10, I9 0 w k10) ∧
    ∀ (v12 : Int) (w13 : World) (k10 : Nat) (_ : Fr), I9 v12 w13 k10 →
    cnd (decide (v12 < (x8_n : Int)))
      (∃ a14 : Addr, h_ = some a14 ∧ ∃ x15_p : Option Addr, ∃ x15_n : Nat, ∃ x15_c : Nat, w13.cell? (a14.add 2) = some (.slice x15_p x15_n x15_c) ∧ 
        ixK x15_p x15_n v12 1 fun a16 =>
        ∃ x17 : Int, w13.cell? a16 = some (.int .i64 x17) ∧ 
        0 ≤ (20 : Int) ∧ ixK x15_p x15_n v12 1 fun a18 =>
        ∃ w19 : World, StoreAt a18 0 [.int .i64 (x17.fdiv (2 ^ (min (20 : Int).toNat (IntKind.bits .i64))))] w13 w19 ∧ 
        ∃ k11, k11 < k10 ∧ I9 (IntKind.i64.wrap (v12 + (1 : Int))) w19 k11)
      (∃ a20 : Addr, h_ = some a20 ∧ ∃ x21 : Int, w13.cell? (a20.add 3) = some (.int .i64 x21) ∧ 
        0 ≤ (20 : Int) ∧ ∃ a22 : Addr, h_ = some a22 ∧ ∃ w23 : World, StoreAt (a22.add 3) 0 [.int .i64 (imax 1 (x21.fdiv (2 ^ (min (20 : Int).toNat (IntKind.bits .i64)))))] w13 w23 ∧ 
        ∃ a24 : Addr, h_ = some a24 ∧ ∃ x25_p : Option Addr, ∃ x25_n : Nat, ∃ x25_c : Nat, w23.cell? (a24.add 0) = some (.slice x25_p x25_n x25_c) ∧ 
        ∃ I26 : Int → World → Nat → Prop, (∃ k27, I26 (IntKind.i64.wrap ((x25_n : Int) - (1 : Int))) w23 k27) ∧
        ∀ (i_29 : Int) (w30 : World) (k27 : Nat) (_ : Fr), I26 i_29 w30 k27 →
        cnd (decide (i_29 ≥ (0 : Int)))
          (Calls Try.prog 75 #[.pointer h_, .int .i64 i_29] w30 fun e w31 => e = .returned (.tuple #[]) ∧ 
            ∃ k28, k28 < k27 ∧ I26 (IntKind.i64.wrap (i_29 - (1 : Int))) w31 k28)
          (K (.tuple #[]) w30))))
  (∃ a32 : Addr, h_ = some a32 ∧ ∃ x33_p : Option Addr, ∃ x33_n : Nat, ∃ x33_c : Nat, w.cell? (a32.add 2) = some (.slice x33_p x33_n x33_c) ∧ 
  ∃ I34 : Int → World → Nat → Prop, (∃ k35, I34 0 w k35) ∧
  ∀ (v37 : Int) (w38 : World) (k35 : Nat) (_ : Fr), I34 v37 w38 k35 →
  cnd (decide (v37 < (x33_n : Int)))
    (∃ a39 : Addr, h_ = some a39 ∧ ∃ x40_p : Option Addr, ∃ x40_n : Nat, ∃ x40_c : Nat, w38.cell? (a39.add 2) = some (.slice x40_p x40_n x40_c) ∧ 
      ixK x40_p x40_n v37 1 fun a41 =>
      ∃ x42 : Int, w38.cell? a41 = some (.int .i64 x42) ∧ 
      0 ≤ (20 : Int) ∧ ixK x40_p x40_n v37 1 fun a43 =>
      ∃ w44 : World, StoreAt a43 0 [.int .i64 (x42.fdiv (2 ^ (min (20 : Int).toNat (IntKind.bits .i64))))] w38 w44 ∧ 
      ∃ k36, k36 < k35 ∧ I34 (IntKind.i64.wrap (v37 + (1 : Int))) w44 k36)
    (∃ a45 : Addr, h_ = some a45 ∧ ∃ x46 : Int, w38.cell? (a45.add 3) = some (.int .i64 x46) ∧ 
      0 ≤ (20 : Int) ∧ ∃ a47 : Addr, h_ = some a47 ∧ ∃ w48 : World, StoreAt (a47.add 3) 0 [.int .i64 (imax 1 (x46.fdiv (2 ^ (min (20 : Int).toNat (IntKind.bits .i64)))))] w38 w48 ∧ 
      ∃ a49 : Addr, h_ = some a49 ∧ ∃ x50_p : Option Addr, ∃ x50_n : Nat, ∃ x50_c : Nat, w48.cell? (a49.add 0) = some (.slice x50_p x50_n x50_c) ∧ 
      ∃ I51 : Int → World → Nat → Prop, (∃ k52, I51 (IntKind.i64.wrap ((x50_n : Int) - (1 : Int))) w48 k52) ∧
      ∀ (i_54 : Int) (w55 : World) (k52 : Nat) (_ : Fr), I51 i_54 w55 k52 →
      cnd (decide (i_54 ≥ (0 : Int)))
        (Calls Try.prog 75 #[.pointer h_, .int .i64 i_54] w55 fun e w56 => e = .returned (.tuple #[]) ∧ 
          ∃ k53, k53 < k52 ∧ I51 (IntKind.i64.wrap (i_54 - (1 : Int))) w56 k53)
        (K (.tuple #[]) w55)))
theorem heap_Heap_scale.eq (h_ : Option Addr) (v_ : Int) (w : World) (K : Value → World → Prop) : wpF Try.prog Try.f77 (.two .leaf (.two (.two .leaf (.one (.loop [(26, 3)] .leaf))) (.two .leaf (.two .leaf (.one (.loop [(5, 3)] .leaf)))))) [.pointer h_, .int .i64 v_] w K = heap_Heap_scale.w h_ v_ w K := by kernel_rfl
theorem heap_Heap_scale.ok : fnOk Try.prog Try.f77 2 = true := by kernel_rfl
theorem heap_Heap_scale.calls {h_ : Option Addr} {v_ : Int} {w : World} {R : Ending → World → Prop} (h : heap_Heap_scale.w h_ v_ w fun v w' => R (.returned v) w') : Calls Try.prog 77 #[.pointer h_, .int .i64 v_] w R :=
  calls_of mixed Try.func77 heap_Heap_scale.ok rfl (fun K => heap_Heap_scale.eq h_ v_ w K) h

/-! ### fathom/fathomref09.scaled: function 78 (named slots 7) -/
def fathomref09_scaled.w (h_0_p : Option Addr) (h_0_n : Nat) (h_0_c : Nat) (h_1_p : Option Addr) (h_1_n : Nat) (h_1_c : Nat) (h_2 : Int) (w : World) (K : Value → World → Prop) : Prop :=
  ∀ (n1 : Nat) (w2 : World), New (.cells #[.slice h_0_p h_0_n h_0_c, .slice h_1_p h_1_n h_1_c, .int .i64 h_2] 74) w n1 w2 → 
  ∀ (n3 : Nat) (w4 : World), New (.cells #[.slice none 0 0, .slice none 0 0, .int .i64 0] 74) w2 n3 w4 → 
  ∃ x5 : Int, w4.cell? ((Addr.mk n1 0 none).add 2) = some (.int .i64 x5) ∧ 
  ∃ I6 : Bool → Int → World → Nat → Prop, (∃ k7, I6 (decide (x5 > (1099511627776 : Int))) 0 w4 k7) ∧
  ∀ (must_9 : Bool) (v_10 : Int) (w11 : World) (k7 : Nat) (_ : Fr), I6 must_9 v_10 w11 k7 →
  ∃ x12_p : Option Addr, ∃ x12_n : Nat, ∃ x12_c : Nat, w11.cell? ((Addr.mk n1 0 none).add 1) = some (.slice x12_p x12_n x12_c) ∧ 
    cnd (decide (v_10 < (x12_n : Int)))
    (cnd must_9
      (∃ k8, k8 < k7 ∧ I6 true (IntKind.i64.wrap (v_10 + (1 : Int))) w11 k8)
      (∃ x13_p : Option Addr, ∃ x13_n : Nat, ∃ x13_c : Nat, w11.cell? ((Addr.mk n1 0 none).add 1) = some (.slice x13_p x13_n x13_c) ∧ 
      ixK x13_p x13_n v_10 1 fun a14 =>
      ∃ x15 : Int, w11.cell? a14 = some (.int .i64 x15) ∧ 
      ∃ k8, k8 < k7 ∧ I6 (decide (x15 > (1099511627776 : Int))) (IntKind.i64.wrap (v_10 + (1 : Int))) w11 k8))
    (cnd (!must_9)
      (∃ x16_p : Option Addr, ∃ x16_n : Nat, ∃ x16_c : Nat, ∃ x17_p : Option Addr, ∃ x17_n : Nat, ∃ x17_c : Nat, ∃ x18 : Int, CellsAt w11 (Addr.mk n1 0 none) 0 [.slice x16_p x16_n x16_c, .slice x17_p x17_n x17_c, .int .i64 x18] ∧ 
        ∃ w19 : World, StoreAt (Addr.mk n3 0 none) 0 [.slice x16_p x16_n x16_c, .slice x17_p x17_n x17_c, .int .i64 x18] w11 w19 ∧ 
        ∃ x20_p : Option Addr, ∃ x20_n : Nat, ∃ x20_c : Nat, ∃ x21_p : Option Addr, ∃ x21_n : Nat, ∃ x21_c : Nat, ∃ x22 : Int, CellsAt w19 (Addr.mk n3 0 none) 0 [.slice x20_p x20_n x20_c, .slice x21_p x21_n x21_c, .int .i64 x22] ∧ 
        K (.agg #[.slice x20_p x20_n x20_c, .slice x21_p x21_n x21_c, .int .i64 x22]) w19)
      (∀ (n23 : Nat) (w24 : World), New (.cells #[] 3) w11 n23 w24 → 
        ∃ I25 : Option Addr → Nat → Nat → Int → World → Nat → Prop, (∃ k26, I25 (some (Addr.mk n23 0 none)) 0 0 0 w24 k26) ∧
        ∀ (s_28_p : Option Addr) (s_28_n : Nat) (s_28_c : Nat) (v_29 : Int) (w30 : World) (k26 : Nat) (_ : Fr), I25 s_28_p s_28_n s_28_c v_29 w30 k26 →
        ∃ x31_p : Option Addr, ∃ x31_n : Nat, ∃ x31_c : Nat, w30.cell? ((Addr.mk n1 0 none).add 1) = some (.slice x31_p x31_n x31_c) ∧ 
          cnd (decide (v_29 < (x31_n : Int)))
          (∃ x32_p : Option Addr, ∃ x32_n : Nat, ∃ x32_c : Nat, w30.cell? ((Addr.mk n1 0 none).add 1) = some (.slice x32_p x32_n x32_c) ∧ 
            ixK x32_p x32_n v_29 1 fun a33 =>
            ∃ x34 : Int, w30.cell? a33 = some (.int .i64 x34) ∧ 
            (1048576 : Int) ≠ 0 ∧ ∀ (n35 : Nat) (w36 : World), New (.cells #[.int .i64 (IntKind.i64.wrap (x34.tdiv (1048576 : Int)))] 3) w30 n35 w36 → 
            ∃ w37 : World, ∃ r38_p : Option Addr, ∃ r38_n : Nat, ∃ r38_c : Nat, (Builtin.append_ #[49, 49] 49 #[.slice s_28_p s_28_n s_28_c, .slice (some (Addr.mk n35 0 none)) 1 1]).run Try.prog w36 = .ok (.slice r38_p r38_n r38_c) w37 ∧ 
            ∃ k27, k27 < k26 ∧ I25 r38_p r38_n r38_c (IntKind.i64.wrap (v_29 + (1 : Int))) w37 k27)
          (∃ w39 : World, StoreAt ((Addr.mk n1 0 none).add 1) 0 [.slice s_28_p s_28_n s_28_c] w30 w39 ∧ 
            ∃ x40 : Int, w39.cell? ((Addr.mk n1 0 none).add 2) = some (.int .i64 x40) ∧ 
            (1048576 : Int) ≠ 0 ∧ ∃ w41 : World, StoreAt ((Addr.mk n1 0 none).add 2) 0 [.int .i64 (IntKind.i64.wrap (x40.tdiv (1048576 : Int)))] w39 w41 ∧ 
            ∃ x42 : Int, w41.cell? ((Addr.mk n1 0 none).add 2) = some (.int .i64 x42) ∧ 
            cnd (decide (x42 < (1 : Int)))
            (∃ w43 : World, StoreAt ((Addr.mk n1 0 none).add 2) 0 [.int .i64 1] w41 w43 ∧ 
              ∃ x44_p : Option Addr, ∃ x44_n : Nat, ∃ x44_c : Nat, ∃ x45_p : Option Addr, ∃ x45_n : Nat, ∃ x45_c : Nat, ∃ x46 : Int, CellsAt w43 (Addr.mk n1 0 none) 0 [.slice x44_p x44_n x44_c, .slice x45_p x45_n x45_c, .int .i64 x46] ∧ 
              ∃ w47 : World, StoreAt (Addr.mk n3 0 none) 0 [.slice x44_p x44_n x44_c, .slice x45_p x45_n x45_c, .int .i64 x46] w43 w47 ∧ 
              ∃ x48_p : Option Addr, ∃ x48_n : Nat, ∃ x48_c : Nat, ∃ x49_p : Option Addr, ∃ x49_n : Nat, ∃ x49_c : Nat, ∃ x50 : Int, CellsAt w47 (Addr.mk n3 0 none) 0 [.slice x48_p x48_n x48_c, .slice x49_p x49_n x49_c, .int .i64 x50] ∧ 
              K (.agg #[.slice x48_p x48_n x48_c, .slice x49_p x49_n x49_c, .int .i64 x50]) w47)
            (∃ x51_p : Option Addr, ∃ x51_n : Nat, ∃ x51_c : Nat, ∃ x52_p : Option Addr, ∃ x52_n : Nat, ∃ x52_c : Nat, ∃ x53 : Int, CellsAt w41 (Addr.mk n1 0 none) 0 [.slice x51_p x51_n x51_c, .slice x52_p x52_n x52_c, .int .i64 x53] ∧ 
              ∃ w54 : World, StoreAt (Addr.mk n3 0 none) 0 [.slice x51_p x51_n x51_c, .slice x52_p x52_n x52_c, .int .i64 x53] w41 w54 ∧ 
              ∃ x55_p : Option Addr, ∃ x55_n : Nat, ∃ x55_c : Nat, ∃ x56_p : Option Addr, ∃ x56_n : Nat, ∃ x56_c : Nat, ∃ x57 : Int, CellsAt w54 (Addr.mk n3 0 none) 0 [.slice x55_p x55_n x55_c, .slice x56_p x56_n x56_c, .int .i64 x57] ∧ 
              K (.agg #[.slice x55_p x55_n x55_c, .slice x56_p x56_n x56_c, .int .i64 x57]) w54))))
theorem fathomref09_scaled.eq (h_0_p : Option Addr) (h_0_n : Nat) (h_0_c : Nat) (h_1_p : Option Addr) (h_1_n : Nat) (h_1_c : Nat) (h_2 : Int) (w : World) (K : Value → World → Prop) : wpF Try.prog Try.f78 (.two .leaf (.two .leaf (.two (.two .leaf (.one (.loop [(3, 4), (4, 3)] .leaf))) (.two .leaf (.two .leaf (.two (.two .leaf (.one (.loop [(5, 49), (6, 3)] .leaf))) .leaf)))))) [.agg #[.slice h_0_p h_0_n h_0_c, .slice h_1_p h_1_n h_1_c, .int .i64 h_2]] w K = fathomref09_scaled.w h_0_p h_0_n h_0_c h_1_p h_1_n h_1_c h_2 w K := by kernel_rfl
theorem fathomref09_scaled.ok : fnOk Try.prog Try.f78 1 = true := by kernel_rfl
theorem fathomref09_scaled.calls {h_0_p : Option Addr} {h_0_n : Nat} {h_0_c : Nat} {h_1_p : Option Addr} {h_1_n : Nat} {h_1_c : Nat} {h_2 : Int} {w : World} {R : Ending → World → Prop} (h : fathomref09_scaled.w h_0_p h_0_n h_0_c h_1_p h_1_n h_1_c h_2 w fun v w' => R (.returned v) w') : Calls Try.prog 78 #[.agg #[.slice h_0_p h_0_n h_0_c, .slice h_1_p h_1_n h_1_c, .int .i64 h_2]] w R :=
  calls_of mixed Try.func78 fathomref09_scaled.ok rfl (fun K => fathomref09_scaled.eq h_0_p h_0_n h_0_c h_1_p h_1_n h_1_c h_2 w K) h

/-! ### (*fathom/heap.Heap).up: function 79 (named slots 6) -/
def heap_Heap_up.w (h_ : Option Addr) (i_ : Int) (w : World) (K : Value → World → Prop) : Prop :=
  ∃ a1 : Addr, h_ = some a1 ∧ ∃ x2_p : Option Addr, ∃ x2_n : Nat, ∃ x2_c : Nat, w.cell? (a1.add 0) = some (.slice x2_p x2_n x2_c) ∧ 
  ixK x2_p x2_n i_ 1 fun a3 =>
  ∃ x4 : Int, w.cell? a3 = some (.int .i64 x4) ∧ 
  ∃ I5 : Int → World → Nat → Prop, (∃ k6, I5 i_ w k6) ∧
  ∀ (i_8 : Int) (w9 : World) (k6 : Nat) (_ : Fr), I5 i_8 w9 k6 →
  cnd (decide (i_8 > (0 : Int)))
    ((2 : Int) ≠ 0 ∧ ∃ a10 : Addr, h_ = some a10 ∧ ∃ x11_p : Option Addr, ∃ x11_n : Nat, ∃ x11_c : Nat, w9.cell? (a10.add 0) = some (.slice x11_p x11_n x11_c) ∧ 
      ixK x11_p x11_n (IntKind.i64.wrap ((IntKind.i64.wrap (i_8 - (1 : Int))).tdiv (2 : Int))) 1 fun a12 =>
      ∃ x13 : Int, w9.cell? a12 = some (.int .i64 x13) ∧ 
      Calls Try.prog 86 #[.pointer h_, .int .i64 x4, .int .i64 x13] w9 fun e w14 => ∃ r15 : Bool, e = .returned (.bool r15) ∧ 
      cnd (!r15)
      (Calls Try.prog 74 #[.pointer h_, .int .i64 i_8, .int .i64 x4] w14 fun e w16 => e = .returned (.tuple #[]) ∧ 
        K (.tuple #[]) w16)
      (∃ a17 : Addr, h_ = some a17 ∧ ∃ x18_p : Option Addr, ∃ x18_n : Nat, ∃ x18_c : Nat, w14.cell? (a17.add 0) = some (.slice x18_p x18_n x18_c) ∧ 
        ixK x18_p x18_n (IntKind.i64.wrap ((IntKind.i64.wrap (i_8 - (1 : Int))).tdiv (2 : Int))) 1 fun a19 =>
        ∃ x20 : Int, w14.cell? a19 = some (.int .i64 x20) ∧ 
        Calls Try.prog 74 #[.pointer h_, .int .i64 i_8, .int .i64 x20] w14 fun e w21 => e = .returned (.tuple #[]) ∧ 
        ∃ k7, k7 < k6 ∧ I5 (IntKind.i64.wrap ((IntKind.i64.wrap (i_8 - (1 : Int))).tdiv (2 : Int))) w21 k7))
    (Calls Try.prog 74 #[.pointer h_, .int .i64 i_8, .int .i64 x4] w9 fun e w22 => e = .returned (.tuple #[]) ∧ 
      K (.tuple #[]) w22)
theorem heap_Heap_up.eq (h_ : Option Addr) (i_ : Int) (w : World) (K : Value → World → Prop) : wpF Try.prog Try.f79 (.two .leaf (.two (.one (.loop [(1, 3)] .leaf)) .leaf)) [.pointer h_, .int .i64 i_] w K = heap_Heap_up.w h_ i_ w K := by kernel_rfl
theorem heap_Heap_up.ok : fnOk Try.prog Try.f79 2 = true := by kernel_rfl
theorem heap_Heap_up.calls {h_ : Option Addr} {i_ : Int} {w : World} {R : Ending → World → Prop} (h : heap_Heap_up.w h_ i_ w fun v w' => R (.returned v) w') : Calls Try.prog 79 #[.pointer h_, .int .i64 i_] w R :=
  calls_of mixed Try.func79 heap_Heap_up.ok rfl (fun K => heap_Heap_up.eq h_ i_ w K) h

/-! ### (*fathom/heap.Heap).better: function 86 (named slots 7) -/
def heap_Heap_better.w (h_ : Option Addr) (a_ : Int) (b_ : Int) (w : World) (K : Value → World → Prop) : Prop :=
  ∃ a1 : Addr, h_ = some a1 ∧ ∃ x2_p : Option Addr, ∃ x2_n : Nat, ∃ x2_c : Nat, w.drew.cell? (a1.add 2) = some (.slice x2_p x2_n x2_c) ∧ 
  ixK x2_p x2_n a_ 1 fun a3 =>
  ∃ x4 : Int, w.drew.cell? a3 = some (.int .i64 x4) ∧ 
  ∃ a5 : Addr, h_ = some a5 ∧ ∃ x6_p : Option Addr, ∃ x6_n : Nat, ∃ x6_c : Nat, w.drew.cell? (a5.add 2) = some (.slice x6_p x6_n x6_c) ∧ 
  ixK x6_p x6_n b_ 1 fun a7 =>
  ∃ x8 : Int, w.drew.cell? a7 = some (.int .i64 x8) ∧ 
  cnd (x4 != x8)
  (∃ a9 : Addr, h_ = some a9 ∧ ∃ x10_p : Option Addr, ∃ x10_n : Nat, ∃ x10_c : Nat, w.drew.drew.cell? (a9.add 2) = some (.slice x10_p x10_n x10_c) ∧ 
    ixK x10_p x10_n a_ 1 fun a11 =>
    ∃ x12 : Int, w.drew.drew.cell? a11 = some (.int .i64 x12) ∧ 
    ∃ a13 : Addr, h_ = some a13 ∧ ∃ x14_p : Option Addr, ∃ x14_n : Nat, ∃ x14_c : Nat, w.drew.drew.cell? (a13.add 2) = some (.slice x14_p x14_n x14_c) ∧ 
    ixK x14_p x14_n b_ 1 fun a15 =>
    ∃ x16 : Int, w.drew.drew.cell? a15 = some (.int .i64 x16) ∧ 
    K (.bool (decide (x12 > x16))) w.drew.drew)
  (K (.bool (decide (a_ < b_))) w.drew)
theorem heap_Heap_better.eq (h_ : Option Addr) (a_ : Int) (b_ : Int) (w : World) (K : Value → World → Prop) : wpF Try.prog Try.f86 .leaf [.pointer h_, .int .i64 a_, .int .i64 b_] w K = heap_Heap_better.w h_ a_ b_ w K := by kernel_rfl
theorem heap_Heap_better.ok : fnOk Try.prog Try.f86 3 = true := by kernel_rfl
theorem heap_Heap_better.calls {h_ : Option Addr} {a_ : Int} {b_ : Int} {w : World} {R : Ending → World → Prop} (h : heap_Heap_better.w h_ a_ b_ w fun v w' => R (.returned v) w') : Calls Try.prog 86 #[.pointer h_, .int .i64 a_, .int .i64 b_] w R :=
  calls_of mixed Try.func86 heap_Heap_better.ok rfl (fun K => heap_Heap_better.eq h_ a_ b_ w K) h

end Go.Proofs.Ytamckcamloelbaa.W
