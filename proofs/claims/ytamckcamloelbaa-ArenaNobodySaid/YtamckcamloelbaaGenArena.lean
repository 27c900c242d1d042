/- The functions that the statements reach, printed as what the frame asks of them, each checked by the kernel against the loaded text. -/
import Derived.Test.YtamckcamloelbaaProg
import Derived.Test.YtamckcamloelbaaFwSound
namespace Go.Proofs.Ytamckcamloelbaa.W
open Go Go.Fw Go.Proofs
set_option linter.unusedVariables false

theorem mixed : Try.prog.follows .mixedOrders = true := by kernel_rfl

abbrev fathomlaw10_LubyNumbers.id : FuncId := 3
abbrev fathomlaw10_LubyPowers.id : FuncId := 4
abbrev fathomlaw10_LubyTicks.id : FuncId := 5
abbrev fathomlaw10_LubyPaces.id : FuncId := 6
abbrev fathomlaw02_ArenaActs.id : FuncId := 7
abbrev fathomlaw02_ArenaGets.id : FuncId := 8
abbrev fathomlaw02_ArenaPacks.id : FuncId := 9
abbrev fathomlaw02_ArenaNobody.id : FuncId := 10
abbrev fathomlaw09_HeapOrders.id : FuncId := 11
abbrev fathomlaw09_HeapActs.id : FuncId := 12
abbrev fathomlaw09_HeapScales.id : FuncId := 13
abbrev fathomlaw09_HeapNew.id : FuncId := 14
abbrev luby_Number.id : FuncId := 15
abbrev fathomref10_Number.id : FuncId := 16
abbrev luby_Sum.id : FuncId := 17
abbrev fathomlaw10_awake.id : FuncId := 18
abbrev fathomref10_Sum.id : FuncId := 19
abbrev luby_Tick.id : FuncId := 20
abbrev fathomref10_May.id : FuncId := 21
abbrev luby_Check.id : FuncId := 22
abbrev luby_Until.id : FuncId := 23
abbrev fathomref10_Tick.id : FuncId := 24
abbrev luby_Start.id : FuncId := 25
abbrev fathomlaw02_light.id : FuncId := 26
abbrev fathomlaw02_awake.id : FuncId := 27
abbrev fathomlaw02_Play.id : FuncId := 28
abbrev fathomlaw02_like.id : FuncId := 29
abbrev arena_Arena_Get.id : FuncId := 30
abbrev fathomref02_Get.id : FuncId := 31
abbrev fathomref01_Ints.id : FuncId := 32
abbrev arena_Arena_Count.id : FuncId := 33
abbrev arena_Arena_Pack.id : FuncId := 34
abbrev arena_Arena_Waste.id : FuncId := 35
abbrev arena_Arena_Add.id : FuncId := 36
abbrev arena_Arena_Drop.id : FuncId := 37
abbrev arena_Arena_Swap.id : FuncId := 38
abbrev arena_Arena_Places.id : FuncId := 39
abbrev arena_Arena_Words.id : FuncId := 40
abbrev fathomlaw09_play.id : FuncId := 41
abbrev fathomref09_Len.id : FuncId := 42
abbrev heap_Heap_Pop.id : FuncId := 43
abbrev fathomref09_Set.id : FuncId := 44
abbrev heap_Heap_Len.id : FuncId := 45
abbrev fathomlaw09_awake.id : FuncId := 46
abbrev fathomlaw09_like.id : FuncId := 47
abbrev heap_Heap_Score.id : FuncId := 48
abbrev heap_Heap_Decay.id : FuncId := 49
abbrev fathomref09_Decay.id : FuncId := 50
abbrev heap_Heap_Step.id : FuncId := 51
abbrev heap_New.id : FuncId := 52
abbrev heap_Heap_Has.id : FuncId := 53
abbrev heap_Heap_Best.id : FuncId := 54
abbrev heap_Heap_Push.id : FuncId := 55
abbrev heap_Heap_Bump.id : FuncId := 56
abbrev luby_number.id : FuncId := 57
abbrev bits_Len.id : FuncId := 58
abbrev arena_New.id : FuncId := 59
abbrev fathomref02_Add.id : FuncId := 60
abbrev fathomref02_Drop.id : FuncId := 61
abbrev fathomref02_Swap.id : FuncId := 62
abbrev fathomref02_Pack.id : FuncId := 63
abbrev fathomref02_Places.id : FuncId := 64
abbrev fathomref02_Words.id : FuncId := 65
abbrev fathomref02_Waste.id : FuncId := 66
abbrev arena_Arena_has.id : FuncId := 67
abbrev arena_Arena_lits.id : FuncId := 68
abbrev fathomref02_at.id : FuncId := 69
abbrev lit_Check.id : FuncId := 70
abbrev fathomref09_New.id : FuncId := 71
abbrev fathomref09_Bump.id : FuncId := 72
abbrev fathomref09_Best.id : FuncId := 73
abbrev heap_Heap_put.id : FuncId := 74
abbrev heap_Heap_fall.id : FuncId := 75
abbrev heap_Heap_is.id : FuncId := 76
abbrev heap_Heap_scale.id : FuncId := 77
abbrev fathomref09_scaled.id : FuncId := 78
abbrev heap_Heap_up.id : FuncId := 79
abbrev bits_Len32.id : FuncId := 80
abbrev bits_Len64.id : FuncId := 81
abbrev fathomref01_May.id : FuncId := 82
abbrev slices_ContainsFunc_int_int.id : FuncId := 83
abbrev lit_Check_1.id : FuncId := 84
abbrev lit_is.id : FuncId := 85
abbrev heap_Heap_better.id : FuncId := 86
abbrev fathomref01_Lit.id : FuncId := 87
abbrev slices_IndexFunc_int_int.id : FuncId := 88
abbrev ty_int64 : TypeId := 2
theorem ty_int64.und : Try.prog.underlying 2 = some (.int .i64) := by kernel_rfl
theorem ty_int64.info : (Try.prog.info? 2).map (fun i => (i.zero, i.size, i.bytes)) = some (some (.int .i64 0), 1, 8) := by kernel_rfl
abbrev ty_int : TypeId := 3
theorem ty_int.und : Try.prog.underlying 3 = some (.int .i64) := by kernel_rfl
theorem ty_int.info : (Try.prog.info? 3).map (fun i => (i.zero, i.size, i.bytes)) = some (some (.int .i64 0), 1, 8) := by kernel_rfl
abbrev ty_bool : TypeId := 4
theorem ty_bool.und : Try.prog.underlying 4 = some .bool := by kernel_rfl
theorem ty_bool.info : (Try.prog.info? 4).map (fun i => (i.zero, i.size, i.bytes)) = some (some (.bool false), 1, 1) := by kernel_rfl
abbrev ty_uint8 : TypeId := 5
theorem ty_uint8.und : Try.prog.underlying 5 = some (.int .u8) := by kernel_rfl
theorem ty_uint8.info : (Try.prog.info? 5).map (fun i => (i.zero, i.size, i.bytes)) = some (some (.int .u8 0), 1, 1) := by kernel_rfl
abbrev ty_abi_BoundsErrorCode : TypeId := 6
theorem ty_abi_BoundsErrorCode.und : Try.prog.underlying 6 = some (.int .u8) := by kernel_rfl
theorem ty_abi_BoundsErrorCode.info : (Try.prog.info? 6).map (fun i => (i.zero, i.size, i.bytes)) = some (some (.int .u8 0), 1, 1) := by kernel_rfl
abbrev ty_runtime_boundsError : TypeId := 8
theorem ty_runtime_boundsError.info : (Try.prog.info? 8).map (fun i => (i.zero, i.size, i.bytes)) = some (some (.agg #[.int .i64 0, .int .i64 0, .bool false, .int .u8 0]), 4, 24) := by kernel_rfl
abbrev ty_uintptr : TypeId := 12
theorem ty_uintptr.und : Try.prog.underlying 12 = some (.int .u64) := by kernel_rfl
theorem ty_uintptr.info : (Try.prog.info? 12).map (fun i => (i.zero, i.size, i.bytes)) = some (some (.int .u64 0), 1, 8) := by kernel_rfl
abbrev ty_runtime_errorAddressString : TypeId := 14
theorem ty_runtime_errorAddressString.info : (Try.prog.info? 14).map (fun i => (i.zero, i.size, i.bytes)) = some (some (.agg #[.string (ByteArray.mk #[]), .int .u64 0]), 2, 24) := by kernel_rfl
abbrev ty_p_runtime_TypeAssertionError : TypeId := 15
theorem ty_p_runtime_TypeAssertionError.info : (Try.prog.info? 15).map (fun i => (i.zero, i.size, i.bytes)) = some (some (.pointer none), 1, 8) := by kernel_rfl
abbrev ty_p_runtime_PanicNilError : TypeId := 16
theorem ty_p_runtime_PanicNilError.info : (Try.prog.info? 16).map (fun i => (i.zero, i.size, i.bytes)) = some (some (.pointer none), 1, 8) := by kernel_rfl
abbrev ty_p_abi_Type : TypeId := 17
theorem ty_p_abi_Type.info : (Try.prog.info? 17).map (fun i => (i.zero, i.size, i.bytes)) = some (some (.pointer none), 1, 8) := by kernel_rfl
abbrev ty_maps_unhashableTypeError : TypeId := 19
theorem ty_maps_unhashableTypeError.info : (Try.prog.info? 19).map (fun i => (i.zero, i.size, i.bytes)) = some (some (.agg #[.pointer none]), 1, 8) := by kernel_rfl
abbrev ty_int32 : TypeId := 21
theorem ty_int32.und : Try.prog.underlying 21 = some (.int .i32) := by kernel_rfl
theorem ty_int32.info : (Try.prog.info? 21).map (fun i => (i.zero, i.size, i.bytes)) = some (some (.int .i32 0), 1, 4) := by kernel_rfl
abbrev ty_api_Errno : TypeId := 22
theorem ty_api_Errno.und : Try.prog.underlying 22 = some (.int .i64) := by kernel_rfl
theorem ty_api_Errno.info : (Try.prog.info? 22).map (fun i => (i.zero, i.size, i.bytes)) = some (some (.int .i64 0), 1, 8) := by kernel_rfl
abbrev ty_api_Pace : TypeId := 30
theorem ty_api_Pace.info : (Try.prog.info? 30).map (fun i => (i.zero, i.size, i.bytes)) = some (some (.agg #[.int .i64 0, .int .i64 0, .int .i64 0]), 3, 24) := by kernel_rfl
abbrev ty_sl_fathomlaw02_Act : TypeId := 40
theorem ty_sl_fathomlaw02_Act.und : Try.prog.underlying 40 = some (.slice 61) := by kernel_rfl
theorem ty_sl_fathomlaw02_Act.info : (Try.prog.info? 40).map (fun i => (i.zero, i.size, i.bytes)) = some (some (.slice none 0 0), 1, 24) := by kernel_rfl
abbrev ty_p_arena_Arena : TypeId := 42
theorem ty_p_arena_Arena.info : (Try.prog.info? 42).map (fun i => (i.zero, i.size, i.bytes)) = some (some (.pointer none), 1, 8) := by kernel_rfl
abbrev ty_sl_fathomref02_Item : TypeId := 43
theorem ty_sl_fathomref02_Item.und : Try.prog.underlying 43 = some (.slice 105) := by kernel_rfl
theorem ty_sl_fathomref02_Item.info : (Try.prog.info? 43).map (fun i => (i.zero, i.size, i.bytes)) = some (some (.slice none 0 0), 1, 24) := by kernel_rfl
abbrev ty_fathomref02_Arena : TypeId := 45
theorem ty_fathomref02_Arena.info : (Try.prog.info? 45).map (fun i => (i.zero, i.size, i.bytes)) = some (some (.agg #[.slice none 0 0]), 1, 24) := by kernel_rfl
abbrev ty_sl_int : TypeId := 49
theorem ty_sl_int.und : Try.prog.underlying 49 = some (.slice 3) := by kernel_rfl
theorem ty_sl_int.info : (Try.prog.info? 49).map (fun i => (i.zero, i.size, i.bytes)) = some (some (.slice none 0 0), 1, 24) := by kernel_rfl
abbrev ty_sl_api_Move : TypeId := 56
theorem ty_sl_api_Move.und : Try.prog.underlying 56 = some (.slice 59) := by kernel_rfl
theorem ty_sl_api_Move.info : (Try.prog.info? 56).map (fun i => (i.zero, i.size, i.bytes)) = some (some (.slice none 0 0), 1, 24) := by kernel_rfl
abbrev ty_api_Move : TypeId := 59
theorem ty_api_Move.info : (Try.prog.info? 59).map (fun i => (i.zero, i.size, i.bytes)) = some (some (.agg #[.int .i64 0, .int .i64 0]), 2, 16) := by kernel_rfl
abbrev ty_fathomlaw02_Act : TypeId := 61
theorem ty_fathomlaw02_Act.info : (Try.prog.info? 61).map (fun i => (i.zero, i.size, i.bytes)) = some (some (.agg #[.int .i64 0, .slice none 0 0, .int .i64 0, .int .i64 0, .int .i64 0]), 5, 56) := by kernel_rfl
abbrev ty_map_int_bool : TypeId := 62
theorem ty_map_int_bool.und : Try.prog.underlying 62 = some (.map 3 4) := by kernel_rfl
theorem ty_map_int_bool.info : (Try.prog.info? 62).map (fun i => (i.zero, i.size, i.bytes)) = some (some (.map none), 1, 8) := by kernel_rfl
abbrev ty_arena_Arena : TypeId := 64
theorem ty_arena_Arena.info : (Try.prog.info? 64).map (fun i => (i.zero, i.size, i.bytes)) = some (some (.agg #[.bool false, .slice none 0 0, .map none, .int .i64 0, .int .i64 0]), 5, 56) := by kernel_rfl
abbrev ty_sl_fathomlaw09_Act : TypeId := 70
theorem ty_sl_fathomlaw09_Act.und : Try.prog.underlying 70 = some (.slice 109) := by kernel_rfl
theorem ty_sl_fathomlaw09_Act.info : (Try.prog.info? 70).map (fun i => (i.zero, i.size, i.bytes)) = some (some (.slice none 0 0), 1, 24) := by kernel_rfl
abbrev ty_p_heap_Heap : TypeId := 71
theorem ty_p_heap_Heap.info : (Try.prog.info? 71).map (fun i => (i.zero, i.size, i.bytes)) = some (some (.pointer none), 1, 8) := by kernel_rfl
abbrev ty_sl_bool : TypeId := 72
theorem ty_sl_bool.und : Try.prog.underlying 72 = some (.slice 4) := by kernel_rfl
theorem ty_sl_bool.info : (Try.prog.info? 72).map (fun i => (i.zero, i.size, i.bytes)) = some (some (.slice none 0 0), 1, 24) := by kernel_rfl
abbrev ty_fathomref09_Heap : TypeId := 74
theorem ty_fathomref09_Heap.info : (Try.prog.info? 74).map (fun i => (i.zero, i.size, i.bytes)) = some (some (.agg #[.slice none 0 0, .slice none 0 0, .int .i64 0]), 3, 56) := by kernel_rfl
abbrev ty_heap_Heap : TypeId := 89
theorem ty_heap_Heap.info : (Try.prog.info? 89).map (fun i => (i.zero, i.size, i.bytes)) = some (some (.agg #[.slice none 0 0, .slice none 0 0, .slice none 0 0, .int .i64 0]), 4, 80) := by kernel_rfl
abbrev ty_uint : TypeId := 91
theorem ty_uint.und : Try.prog.underlying 91 = some (.int .u64) := by kernel_rfl
theorem ty_uint.info : (Try.prog.info? 91).map (fun i => (i.zero, i.size, i.bytes)) = some (some (.int .u64 0), 1, 8) := by kernel_rfl
abbrev ty_fathomref02_Item : TypeId := 105
theorem ty_fathomref02_Item.info : (Try.prog.info? 105).map (fun i => (i.zero, i.size, i.bytes)) = some (some (.agg #[.slice none 0 0, .bool false]), 2, 32) := by kernel_rfl
abbrev ty_fathomlaw09_Act : TypeId := 109
theorem ty_fathomlaw09_Act.info : (Try.prog.info? 109).map (fun i => (i.zero, i.size, i.bytes)) = some (some (.agg #[.int .i64 0, .int .i64 0, .int .i64 0]), 3, 24) := by kernel_rfl
abbrev ty_uint32 : TypeId := 114
theorem ty_uint32.und : Try.prog.underlying 114 = some (.int .u32) := by kernel_rfl
theorem ty_uint32.info : (Try.prog.info? 114).map (fun i => (i.zero, i.size, i.bytes)) = some (some (.int .u32 0), 1, 4) := by kernel_rfl
abbrev ty_uint64 : TypeId := 116
theorem ty_uint64.und : Try.prog.underlying 116 = some (.int .u64) := by kernel_rfl
theorem ty_uint64.info : (Try.prog.info? 116).map (fun i => (i.zero, i.size, i.bytes)) = some (some (.int .u64 0), 1, 8) := by kernel_rfl
abbrev ty_runtime_TypeAssertionError : TypeId := 122
theorem ty_runtime_TypeAssertionError.info : (Try.prog.info? 122).map (fun i => (i.zero, i.size, i.bytes)) = some (some (.agg #[.pointer none, .pointer none, .pointer none, .string (ByteArray.mk #[])]), 4, 40) := by kernel_rfl
abbrev ty_runtime_PanicNilError : TypeId := 125
theorem ty_runtime_PanicNilError.info : (Try.prog.info? 125).map (fun i => (i.zero, i.size, i.bytes)) = some (some (.agg #[]), 0, 0) := by kernel_rfl
abbrev ty_abi_TFlag : TypeId := 126
theorem ty_abi_TFlag.und : Try.prog.underlying 126 = some (.int .u8) := by kernel_rfl
theorem ty_abi_TFlag.info : (Try.prog.info? 126).map (fun i => (i.zero, i.size, i.bytes)) = some (some (.int .u8 0), 1, 1) := by kernel_rfl
abbrev ty_abi_Kind : TypeId := 127
theorem ty_abi_Kind.und : Try.prog.underlying 127 = some (.int .u8) := by kernel_rfl
theorem ty_abi_Kind.info : (Try.prog.info? 127).map (fun i => (i.zero, i.size, i.bytes)) = some (some (.int .u8 0), 1, 1) := by kernel_rfl
abbrev ty_p_uint8 : TypeId := 129
theorem ty_p_uint8.info : (Try.prog.info? 129).map (fun i => (i.zero, i.size, i.bytes)) = some (some (.pointer none), 1, 8) := by kernel_rfl
abbrev ty_abi_NameOff : TypeId := 130
theorem ty_abi_NameOff.und : Try.prog.underlying 130 = some (.int .i32) := by kernel_rfl
theorem ty_abi_NameOff.info : (Try.prog.info? 130).map (fun i => (i.zero, i.size, i.bytes)) = some (some (.int .i32 0), 1, 4) := by kernel_rfl
abbrev ty_abi_TypeOff : TypeId := 131
theorem ty_abi_TypeOff.und : Try.prog.underlying 131 = some (.int .i32) := by kernel_rfl
theorem ty_abi_TypeOff.info : (Try.prog.info? 131).map (fun i => (i.zero, i.size, i.bytes)) = some (some (.int .i32 0), 1, 4) := by kernel_rfl
abbrev ty_abi_Type : TypeId := 133
theorem ty_abi_Type.info : (Try.prog.info? 133).map (fun i => (i.zero, i.size, i.bytes)) = some (some (.agg #[.int .u64 0, .int .u64 0, .int .u32 0, .int .u8 0, .int .u8 0, .int .u8 0, .int .u8 0, .nilFunc, .pointer none, .int .i32 0, .int .i32 0]), 11, 48) := by kernel_rfl

/-! ### fathom/fathomlaw02.ArenaActs: function 7 (named slots 6) -/
def fathomlaw02_ArenaActs.w (l__p : Option Addr) (l__n : Nat) (l__c : Nat) (w : World) (K : Value → World → Prop) : Prop :=
  Calls Try.prog 26 #[.slice l__p l__n l__c] w fun e w1 => ∃ r2 : Bool, e = .returned (.bool r2) ∧ 
  cnd (!r2)
  (Calls Try.prog 27 #[] w1 fun e w3 => ∃ r4 : Bool, e = .returned (.bool r4) ∧ 
    K (.bool r4) w3)
  (Calls Try.prog 28 #[.slice l__p l__n l__c] w1 fun e w5 => ∃ r6 : Option Addr, ∃ r7_p : Option Addr, ∃ r7_n : Nat, ∃ r7_c : Nat, ∃ r8 : Bool, e = .returned (.tuple #[.pointer r6, .agg #[.slice r7_p r7_n r7_c], .bool r8]) ∧ 
    ∀ (n9 : Nat) (w10 : World), New (.cells #[.slice none 0 0] 45) w5 n9 w10 → 
    ∃ w11 : World, StoreAt (Addr.mk n9 0 none) 0 [.slice r7_p r7_n r7_c] w10 w11 ∧ 
    cnd r8
    (cnd (!r6.isNone)
    (∃ x12_p : Option Addr, ∃ x12_n : Nat, ∃ x12_c : Nat, CellsAt w11 (Addr.mk n9 0 none) 0 [.slice x12_p x12_n x12_c] ∧ 
    Calls Try.prog 29 #[.pointer r6, .agg #[.slice x12_p x12_n x12_c]] w11 fun e w13 => ∃ r14 : Bool, e = .returned (.bool r14) ∧ 
    cnd r14
    (Calls Try.prog 27 #[] w13 fun e w15 => ∃ r16 : Bool, e = .returned (.bool r16) ∧ 
    K (.bool r16) w15)
    (K (.bool false) w13))
    (K (.bool false) w11))
    (K (.bool false) w11))
theorem fathomlaw02_ArenaActs.eq (l__p : Option Addr) (l__n : Nat) (l__c : Nat) (w : World) (K : Value → World → Prop) : wpF Try.prog Try.f7 .leaf [.slice l__p l__n l__c] w K = fathomlaw02_ArenaActs.w l__p l__n l__c w K := by kernel_rfl
theorem fathomlaw02_ArenaActs.ok : fnOk Try.prog Try.f7 1 = true := by kernel_rfl
theorem fathomlaw02_ArenaActs.calls {l__p : Option Addr} {l__n : Nat} {l__c : Nat} {w : World} {R : Ending → World → Prop} (h : fathomlaw02_ArenaActs.w l__p l__n l__c w fun v w' => R (.returned v) w') : Calls Try.prog 7 #[.slice l__p l__n l__c] w R :=
  calls_of mixed Try.func7 fathomlaw02_ArenaActs.ok rfl (fun K => fathomlaw02_ArenaActs.eq l__p l__n l__c w K) h

/-! ### fathom/fathomlaw02.ArenaGets: function 8 (named slots 13) -/
def fathomlaw02_ArenaGets.w (l__p : Option Addr) (l__n : Nat) (l__c : Nat) (at_ : Int) (w : World) (K : Value → World → Prop) : Prop :=
  Calls Try.prog 26 #[.slice l__p l__n l__c] w fun e w1 => ∃ r2 : Bool, e = .returned (.bool r2) ∧ 
  cnd (!r2)
  (Calls Try.prog 27 #[] w1 fun e w3 => ∃ r4 : Bool, e = .returned (.bool r4) ∧ 
    K (.bool r4) w3)
  (Calls Try.prog 28 #[.slice l__p l__n l__c] w1 fun e w5 => ∃ r6 : Option Addr, ∃ r7_p : Option Addr, ∃ r7_n : Nat, ∃ r7_c : Nat, ∃ r8 : Bool, e = .returned (.tuple #[.pointer r6, .agg #[.slice r7_p r7_n r7_c], .bool r8]) ∧ 
    ∀ (n9 : Nat) (w10 : World), New (.cells #[.slice none 0 0] 45) w5 n9 w10 → 
    ∃ w11 : World, StoreAt (Addr.mk n9 0 none) 0 [.slice r7_p r7_n r7_c] w10 w11 ∧ 
    cnd (!r8)
    (K (.bool false) w11)
    (cnd r6.isNone
    (K (.bool false) w11)
    (Calls Try.prog 30 #[.pointer r6, .int .i64 at_] w11 fun e w12 => ∃ r13_p : Option Addr, ∃ r13_n : Nat, ∃ r13_c : Nat, ∃ r14 : Bool, e = .returned (.tuple #[.slice r13_p r13_n r13_c, .bool r14]) ∧ 
      ∃ x15_p : Option Addr, ∃ x15_n : Nat, ∃ x15_c : Nat, CellsAt w12 (Addr.mk n9 0 none) 0 [.slice x15_p x15_n x15_c] ∧ 
      Calls Try.prog 31 #[.agg #[.slice x15_p x15_n x15_c], .int .i64 at_] w12 fun e w16 => ∃ r17_p : Option Addr, ∃ r17_n : Nat, ∃ r17_c : Nat, ∃ r18 : Bool, e = .returned (.tuple #[.slice r17_p r17_n r17_c, .bool r18]) ∧ 
      cnd (!(r14 == r18))
      (K (.bool false) w16)
      (Calls Try.prog 32 #[.slice r13_p r13_n r13_c, .slice r17_p r17_n r17_c] w16 fun e w19 => ∃ r20 : Bool, e = .returned (.bool r20) ∧ 
      cnd (!r20)
      (K (.bool false) w19)
      (∃ I21 : Int → World → Nat → Prop, (∃ k22, I21 0 w19 k22) ∧
        ∀ (i_24 : Int) (w25 : World) (k22 : Nat) (_ : Fr), I21 i_24 w25 k22 →
        cnd (decide (i_24 < (r13_n : Int)))
          (ixK r13_p r13_n i_24 1 fun a26 =>
            ∃ w27 : World, StoreAt a26 0 [.int .i64 77] w25 w27 ∧ 
            ∃ k23, k23 < k22 ∧ I21 (IntKind.i64.wrap (i_24 + (1 : Int))) w27 k23)
          (∃ x28_p : Option Addr, ∃ x28_n : Nat, ∃ x28_c : Nat, CellsAt w25 (Addr.mk n9 0 none) 0 [.slice x28_p x28_n x28_c] ∧ 
            Calls Try.prog 29 #[.pointer r6, .agg #[.slice x28_p x28_n x28_c]] w25 fun e w29 => ∃ r30 : Bool, e = .returned (.bool r30) ∧ 
            cnd r30
            (Calls Try.prog 27 #[] w29 fun e w31 => ∃ r32 : Bool, e = .returned (.bool r32) ∧ 
            K (.bool r32) w31)
            (K (.bool false) w29)))))))
theorem fathomlaw02_ArenaGets.eq (l__p : Option Addr) (l__n : Nat) (l__c : Nat) (at_ : Int) (w : World) (K : Value → World → Prop) : wpF Try.prog Try.f8 (.two .leaf (.two .leaf (.two .leaf (.two .leaf (.two .leaf (.two .leaf (.two .leaf (.two (.two .leaf (.one (.loop [(12, 3)] .leaf))) .leaf)))))))) [.slice l__p l__n l__c, .int .i64 at_] w K = fathomlaw02_ArenaGets.w l__p l__n l__c at_ w K := by kernel_rfl
theorem fathomlaw02_ArenaGets.ok : fnOk Try.prog Try.f8 2 = true := by kernel_rfl
theorem fathomlaw02_ArenaGets.calls {l__p : Option Addr} {l__n : Nat} {l__c : Nat} {at_ : Int} {w : World} {R : Ending → World → Prop} (h : fathomlaw02_ArenaGets.w l__p l__n l__c at_ w fun v w' => R (.returned v) w') : Calls Try.prog 8 #[.slice l__p l__n l__c, .int .i64 at_] w R :=
  calls_of mixed Try.func8 fathomlaw02_ArenaGets.ok rfl (fun K => fathomlaw02_ArenaGets.eq l__p l__n l__c at_ w K) h

/-! ### fathom/fathomlaw02.ArenaPacks: function 9 (named slots 15) -/
def fathomlaw02_ArenaPacks.w (l__p : Option Addr) (l__n : Nat) (l__c : Nat) (w : World) (K : Value → World → Prop) : Prop :=
  Calls Try.prog 26 #[.slice l__p l__n l__c] w fun e w1 => ∃ r2 : Bool, e = .returned (.bool r2) ∧ 
  cnd (!r2)
  (Calls Try.prog 27 #[] w1 fun e w3 => ∃ r4 : Bool, e = .returned (.bool r4) ∧ 
    K (.bool r4) w3)
  (Calls Try.prog 28 #[.slice l__p l__n l__c] w1 fun e w5 => ∃ r6 : Option Addr, ∃ r7_p : Option Addr, ∃ r7_n : Nat, ∃ r7_c : Nat, ∃ r8 : Bool, e = .returned (.tuple #[.pointer r6, .agg #[.slice r7_p r7_n r7_c], .bool r8]) ∧ 
    ∀ (n9 : Nat) (w10 : World), New (.cells #[.slice none 0 0] 45) w5 n9 w10 → 
    ∃ w11 : World, StoreAt (Addr.mk n9 0 none) 0 [.slice r7_p r7_n r7_c] w10 w11 ∧ 
    cnd (!r8)
    (K (.bool false) w11)
    (cnd r6.isNone
    (K (.bool false) w11)
    (Calls Try.prog 33 #[.pointer r6] w11 fun e w12 => ∃ r13 : Int, e = .returned (.int .i64 r13) ∧ 
      Calls Try.prog 34 #[.pointer r6] w12 fun e w14 => ∃ r15_p : Option Addr, ∃ r15_n : Nat, ∃ r15_c : Nat, e = .returned (.slice r15_p r15_n r15_c) ∧ 
      cnd ((r15_n : Int) != r13)
      (K (.bool false) w14)
      (Calls Try.prog 35 #[.pointer r6] w14 fun e w16 => ∃ r17 : Int, e = .returned (.int .i64 r17) ∧ 
      cnd (r17 != (0 : Int))
      (K (.bool false) w16)
      (Calls Try.prog 33 #[.pointer r6] w16 fun e w18 => ∃ r19 : Int, e = .returned (.int .i64 r19) ∧ 
      cnd (r19 != r13)
      (K (.bool false) w18)
      (∃ I20 : Int → World → Nat → Prop, (∃ k21, I20 0 w18 k21) ∧
        ∀ (i_23 : Int) (w24 : World) (k21 : Nat) (_ : Fr), I20 i_23 w24 k21 →
        cnd (decide (i_23 < r13))
          (ixK r15_p r15_n i_23 2 fun a25 =>
            ∃ x26 : Int, w24.cell? (a25.add 1) = some (.int .i64 x26) ∧ 
            Calls Try.prog 30 #[.pointer r6, .int .i64 x26] w24 fun e w27 => ∃ r28_p : Option Addr, ∃ r28_n : Nat, ∃ r28_c : Nat, ∃ r29 : Bool, e = .returned (.tuple #[.slice r28_p r28_n r28_c, .bool r29]) ∧ 
            ∃ x30_p : Option Addr, ∃ x30_n : Nat, ∃ x30_c : Nat, CellsAt w27.drew (Addr.mk n9 0 none) 0 [.slice x30_p x30_n x30_c] ∧ 
            ixK r15_p r15_n i_23 2 fun a31 =>
            ∃ x32 : Int, w27.drew.cell? (a31.add 0) = some (.int .i64 x32) ∧ 
            Calls Try.prog 31 #[.agg #[.slice x30_p x30_n x30_c], .int .i64 x32] w27.drew fun e w33 => ∃ r34_p : Option Addr, ∃ r34_n : Nat, ∃ r34_c : Nat, ∃ r35 : Bool, e = .returned (.tuple #[.slice r34_p r34_n r34_c, .bool r35]) ∧ 
            cnd (!r29)
            (K (.bool false) w33.drew)
            (Calls Try.prog 32 #[.slice r28_p r28_n r28_c, .slice r34_p r34_n r34_c] w33.drew fun e w36 => ∃ r37 : Bool, e = .returned (.bool r37) ∧ 
            cnd (!r37)
            (K (.bool false) w36)
            (ixK r15_p r15_n i_23 2 fun a38 =>
            ∃ x39 : Int, w36.cell? (a38.add 1) = some (.int .i64 x39) ∧ 
            ixK r15_p r15_n i_23 2 fun a40 =>
            ∃ x41 : Int, w36.cell? (a40.add 0) = some (.int .i64 x41) ∧ 
            cnd (decide (x39 > x41))
            (K (.bool false) w36)
            (∃ k22, k22 < k21 ∧ I20 (IntKind.i64.wrap (i_23 + (1 : Int))) w36 k22))))
          (Calls Try.prog 34 #[.pointer r6] w24 fun e w42 => ∃ r43_p : Option Addr, ∃ r43_n : Nat, ∃ r43_c : Nat, e = .returned (.slice r43_p r43_n r43_c) ∧ 
            ∃ I44 : Int → World → Nat → Prop, (∃ k45, I44 0 w42 k45) ∧
            ∀ (i_47 : Int) (w48 : World) (k45 : Nat) (_ : Fr), I44 i_47 w48 k45 →
            cnd (decide (i_47 < (r43_n : Int)))
              (ixK r43_p r43_n i_47 2 fun a49 =>
                ∃ x50 : Int, w48.drew.cell? (a49.add 0) = some (.int .i64 x50) ∧ 
                ixK r43_p r43_n i_47 2 fun a51 =>
                ∃ x52 : Int, w48.drew.cell? (a51.add 1) = some (.int .i64 x52) ∧ 
                cnd (x50 != x52)
                (K (.bool false) w48.drew)
                (∃ k46, k46 < k45 ∧ I44 (IntKind.i64.wrap (i_47 + (1 : Int))) w48.drew k46))
              (cnd ((r43_n : Int) == r13)
                (Calls Try.prog 27 #[] w48 fun e w53 => ∃ r54 : Bool, e = .returned (.bool r54) ∧ 
                K (.bool r54) w53)
                (K (.bool false) w48)))))))))
theorem fathomlaw02_ArenaPacks.eq (l__p : Option Addr) (l__n : Nat) (l__c : Nat) (w : World) (K : Value → World → Prop) : wpF Try.prog Try.f9 (.two .leaf (.two .leaf (.two .leaf (.two .leaf (.two .leaf (.two .leaf (.two .leaf (.two (.two .leaf (.one (.loop [(8, 3)] .leaf))) (.two .leaf (.two (.two .leaf (.one (.loop [(14, 3)] .leaf))) .leaf)))))))))) [.slice l__p l__n l__c] w K = fathomlaw02_ArenaPacks.w l__p l__n l__c w K := by kernel_rfl
theorem fathomlaw02_ArenaPacks.ok : fnOk Try.prog Try.f9 1 = true := by kernel_rfl
theorem fathomlaw02_ArenaPacks.calls {l__p : Option Addr} {l__n : Nat} {l__c : Nat} {w : World} {R : Ending → World → Prop} (h : fathomlaw02_ArenaPacks.w l__p l__n l__c w fun v w' => R (.returned v) w') : Calls Try.prog 9 #[.slice l__p l__n l__c] w R :=
  calls_of mixed Try.func9 fathomlaw02_ArenaPacks.ok rfl (fun K => fathomlaw02_ArenaPacks.eq l__p l__n l__c w K) h

/-! ### fathom/fathomlaw02.ArenaNobody: function 10 (named slots 9) cuts [(2, 78)] -/
def fathomlaw02_ArenaNobody.w (x0_0 : Int) (x0_1_p : Option Addr) (x0_1_n : Nat) (x0_1_c : Nat) (x0_2 : Int) (x0_3 : Int) (x0_4 : Int) (w : World) (K : Value → World → Prop) : Prop :=
  ∀ (n1 : Nat) (w2 : World), New (.cells #[.int .i64 x0_0, .slice x0_1_p x0_1_n x0_1_c, .int .i64 x0_2, .int .i64 x0_3, .int .i64 x0_4] 61) w n1 w2 → 
  ∃ I3 : Int → World → Nat → Prop, (∃ k4, I3 0 w2 k4) ∧
  ∀ (k_6 : Int) (w7 : World) (k4 : Nat) (_ : Fr), I3 k_6 w7 k4 →
  cnd (decide (k_6 < (2 : Int)))
    (∃ J8 : Option Addr → World → Prop, (cnd (k_6 == (1 : Int))
      (∀ (n9 : Nat) (w10 : World), New (.cells #[.bool false, .slice none 0 0, .map none, .int .i64 0, .int .i64 0] 64) w7 n9 w10 → 
        J8 (some (Addr.mk n9 0 none)) w10)
      (J8 none w7)) ∧
      ∀ (z_11 : Option Addr) (w12 : World) (_ : Fr), J8 z_11 w12 → 
      ∃ x13_p : Option Addr, ∃ x13_n : Nat, ∃ x13_c : Nat, w12.cell? ((Addr.mk n1 0 none).add 1) = some (.slice x13_p x13_n x13_c) ∧ 
      Calls Try.prog 36 #[.pointer z_11, .slice x13_p x13_n x13_c] w12 fun e w14 => ∃ r15 : Int, ∃ r16 : Int, e = .returned (.tuple #[.int .i64 r15, .int .i64 r16]) ∧ 
      ∃ x17 : Int, w14.cell? ((Addr.mk n1 0 none).add 2) = some (.int .i64 x17) ∧ 
      Calls Try.prog 30 #[.pointer z_11, .int .i64 x17] w14 fun e w18 => ∃ r19_p : Option Addr, ∃ r19_n : Nat, ∃ r19_c : Nat, ∃ r20 : Bool, e = .returned (.tuple #[.slice r19_p r19_n r19_c, .bool r20]) ∧ 
      cnd (r16 != (5 : Int))
      (K (.bool false) w18)
      (cnd (r15 != (0 : Int))
      (K (.bool false) w18)
      (cnd r20
      (K (.bool false) w18)
      (cnd ((r19_n : Int) != (0 : Int))
      (K (.bool false) w18)
      (∃ x21 : Int, w18.cell? ((Addr.mk n1 0 none).add 2) = some (.int .i64 x21) ∧ 
      Calls Try.prog 37 #[.pointer z_11, .int .i64 x21] w18 fun e w22 => ∃ r23 : Int, e = .returned (.int .i64 r23) ∧ 
      cnd (r23 != (4 : Int))
      (K (.bool false) w22)
      (∃ x24 : Int, w22.cell? ((Addr.mk n1 0 none).add 2) = some (.int .i64 x24) ∧ 
      ∃ x25 : Int, w22.cell? ((Addr.mk n1 0 none).add 3) = some (.int .i64 x25) ∧ 
      ∃ x26 : Int, w22.cell? ((Addr.mk n1 0 none).add 4) = some (.int .i64 x26) ∧ 
      Calls Try.prog 38 #[.pointer z_11, .int .i64 x24, .int .i64 x25, .int .i64 x26] w22 fun e w27 => ∃ r28 : Int, e = .returned (.int .i64 r28) ∧ 
      cnd (r28 != (4 : Int))
      (K (.bool false) w27)
      (Calls Try.prog 39 #[.pointer z_11] w27 fun e w29 => ∃ r30_p : Option Addr, ∃ r30_n : Nat, ∃ r30_c : Nat, e = .returned (.slice r30_p r30_n r30_c) ∧ 
      cnd ((r30_n : Int) != (0 : Int))
      (K (.bool false) w29)
      (Calls Try.prog 33 #[.pointer z_11] w29 fun e w31 => ∃ r32 : Int, e = .returned (.int .i64 r32) ∧ 
      cnd (r32 != (0 : Int))
      (K (.bool false) w31)
      (Calls Try.prog 40 #[.pointer z_11] w31 fun e w33 => ∃ r34 : Int, e = .returned (.int .i64 r34) ∧ 
      cnd (r34 != (0 : Int))
      (K (.bool false) w33)
      (Calls Try.prog 35 #[.pointer z_11] w33 fun e w35 => ∃ r36 : Int, e = .returned (.int .i64 r36) ∧ 
      cnd (r36 != (0 : Int))
      (K (.bool false) w35)
      (Calls Try.prog 34 #[.pointer z_11] w35 fun e w37 => ∃ r38_p : Option Addr, ∃ r38_n : Nat, ∃ r38_c : Nat, e = .returned (.slice r38_p r38_n r38_c) ∧ 
      cnd ((r38_n : Int) != (0 : Int))
      (K (.bool false) w37)
      (∃ k5, k5 < k4 ∧ I3 (IntKind.i64.wrap (k_6 + (1 : Int))) w37 k5))))))))))))
    (Calls Try.prog 27 #[] w7 fun e w39 => ∃ r40 : Bool, e = .returned (.bool r40) ∧ 
      K (.bool r40) w39)
theorem fathomlaw02_ArenaNobody.eq (x0_0 : Int) (x0_1_p : Option Addr) (x0_1_n : Nat) (x0_1_c : Nat) (x0_2 : Int) (x0_3 : Int) (x0_4 : Int) (w : World) (K : Value → World → Prop) : wpF Try.prog Try.f10 (.two .leaf (.two (.two .leaf (.one (.loop [(3, 3)] (.two .leaf (.two (.one (.two .leaf (.cut [(4, 42)] .leaf .leaf))) .leaf))))) .leaf)) [.agg #[.int .i64 x0_0, .slice x0_1_p x0_1_n x0_1_c, .int .i64 x0_2, .int .i64 x0_3, .int .i64 x0_4]] w K = fathomlaw02_ArenaNobody.w x0_0 x0_1_p x0_1_n x0_1_c x0_2 x0_3 x0_4 w K := by kernel_rfl
theorem fathomlaw02_ArenaNobody.ok : fnOk Try.prog Try.f10 1 = true := by kernel_rfl
theorem fathomlaw02_ArenaNobody.calls {x0_0 : Int} {x0_1_p : Option Addr} {x0_1_n : Nat} {x0_1_c : Nat} {x0_2 : Int} {x0_3 : Int} {x0_4 : Int} {w : World} {R : Ending → World → Prop} (h : fathomlaw02_ArenaNobody.w x0_0 x0_1_p x0_1_n x0_1_c x0_2 x0_3 x0_4 w fun v w' => R (.returned v) w') : Calls Try.prog 10 #[.agg #[.int .i64 x0_0, .slice x0_1_p x0_1_n x0_1_c, .int .i64 x0_2, .int .i64 x0_3, .int .i64 x0_4]] w R :=
  calls_of mixed Try.func10 fathomlaw02_ArenaNobody.ok rfl (fun K => fathomlaw02_ArenaNobody.eq x0_0 x0_1_p x0_1_n x0_1_c x0_2 x0_3 x0_4 w K) h

/-! ### fathom/fathomlaw02.light: function 26 (named slots 4) -/
def fathomlaw02_light.w (l__p : Option Addr) (l__n : Nat) (l__c : Nat) (w : World) (K : Value → World → Prop) : Prop :=
  ∃ I1 : Int → World → Nat → Prop, (∃ k2, I1 0 w k2) ∧
  ∀ (i_4 : Int) (w5 : World) (k2 : Nat) (_ : Fr), I1 i_4 w5 k2 →
  cnd (decide (i_4 < (l__n : Int)))
    (cnd (decide (i_4 < (40 : Int)))
    (ixK l__p l__n i_4 5 fun a6 =>
      ∃ x7_p : Option Addr, ∃ x7_n : Nat, ∃ x7_c : Nat, w5.cell? (a6.add 1) = some (.slice x7_p x7_n x7_c) ∧ 
      cnd (decide ((x7_n : Int) > (300 : Int)))
      (K (.bool false) w5)
      (∃ k3, k3 < k2 ∧ I1 (IntKind.i64.wrap (i_4 + (1 : Int))) w5 k3))
    (K (.bool true) w5))
    (K (.bool true) w5)
theorem fathomlaw02_light.eq (l__p : Option Addr) (l__n : Nat) (l__c : Nat) (w : World) (K : Value → World → Prop) : wpF Try.prog Try.f26 (.two .leaf (.two (.two .leaf (.one (.loop [(3, 3)] .leaf))) .leaf)) [.slice l__p l__n l__c] w K = fathomlaw02_light.w l__p l__n l__c w K := by kernel_rfl
theorem fathomlaw02_light.ok : fnOk Try.prog Try.f26 1 = true := by kernel_rfl
theorem fathomlaw02_light.calls {l__p : Option Addr} {l__n : Nat} {l__c : Nat} {w : World} {R : Ending → World → Prop} (h : fathomlaw02_light.w l__p l__n l__c w fun v w' => R (.returned v) w') : Calls Try.prog 26 #[.slice l__p l__n l__c] w R :=
  calls_of mixed Try.func26 fathomlaw02_light.ok rfl (fun K => fathomlaw02_light.eq l__p l__n l__c w K) h

/-! ### fathom/fathomlaw02.awake: function 27 (named slots 6) -/
def fathomlaw02_awake.w (w : World) (K : Value → World → Prop) : Prop :=
  Calls Try.prog 59 #[] w fun e w1 => ∃ r2 : Option Addr, e = .returned (.pointer r2) ∧ 
  ∀ (n3 : Nat) (w4 : World), New (.cells #[.int .i64 1, .int .i64 2] 3) w1 n3 w4 → 
  Calls Try.prog 36 #[.pointer r2, .slice (some (Addr.mk n3 0 none)) 2 2] w4 fun e w5 => ∃ r6 : Int, ∃ r7 : Int, e = .returned (.tuple #[.int .i64 r6, .int .i64 r7]) ∧ 
  ∀ (n8 : Nat) (w9 : World), New (.cells #[.int .i64 3] 3) w5 n8 w9 → 
  Calls Try.prog 36 #[.pointer r2, .slice (some (Addr.mk n8 0 none)) 1 1] w9 fun e w10 => ∃ r11 : Int, ∃ r12 : Int, e = .returned (.tuple #[.int .i64 r11, .int .i64 r12]) ∧ 
  cnd (r7 == (0 : Int))
  (cnd (r12 == (0 : Int))
  (cnd (r6 == (0 : Int))
  (cnd (r11 == (4 : Int))
  (Calls Try.prog 40 #[.pointer r2] w10 fun e w13 => ∃ r14 : Int, e = .returned (.int .i64 r14) ∧ 
  K (.bool (r14 == (7 : Int))) w13)
  (K (.bool false) w10))
  (K (.bool false) w10))
  (K (.bool false) w10))
  (K (.bool false) w10)
theorem fathomlaw02_awake.eq (w : World) (K : Value → World → Prop) : wpF Try.prog Try.f27 .leaf [] w K = fathomlaw02_awake.w  w K := by kernel_rfl
theorem fathomlaw02_awake.ok : fnOk Try.prog Try.f27 0 = true := by kernel_rfl
theorem fathomlaw02_awake.calls {w : World} {R : Ending → World → Prop} (h : fathomlaw02_awake.w  w fun v w' => R (.returned v) w') : Calls Try.prog 27 #[] w R :=
  calls_of mixed Try.func27 fathomlaw02_awake.ok rfl (fun K => fathomlaw02_awake.eq  w K) h

/-! ### fathom/fathomlaw02.Play: function 28 (named slots 16) -/
def fathomlaw02_Play.w (l__p : Option Addr) (l__n : Nat) (l__c : Nat) (w : World) (K : Value → World → Prop) : Prop :=
  ∀ (n1 : Nat) (w2 : World), New (.cells #[.slice none 0 0] 45) w n1 w2 → 
  Calls Try.prog 59 #[] w2 fun e w3 => ∃ r4 : Option Addr, e = .returned (.pointer r4) ∧ 
  ∀ (n5 : Nat) (w6 : World), New (.cells #[.slice none 0 0] 45) w3 n5 w6 → 
  ∃ w7 : World, StoreAt (Addr.mk n5 0 none) 0 [.slice none 0 0] w6 w7 ∧ 
  ∃ I8 : Int → World → Nat → Prop, (∃ k9, I8 0 w7 k9) ∧
  ∀ (i_11 : Int) (w12 : World) (k9 : Nat) (_ : Fr), I8 i_11 w12 k9 →
  cnd (decide (i_11 < (l__n : Int)))
    (cnd (decide (i_11 < (40 : Int)))
    (ixK l__p l__n i_11 5 fun a13 =>
      ∃ x14 : Int, ∃ x15_p : Option Addr, ∃ x15_n : Nat, ∃ x15_c : Nat, ∃ x16 : Int, ∃ x17 : Int, ∃ x18 : Int, CellsAt w12 a13 0 [.int .i64 x14, .slice x15_p x15_n x15_c, .int .i64 x16, .int .i64 x17, .int .i64 x18] ∧ 
      ∀ (n19 : Nat) (w20 : World), New (.cells #[.int .i64 0, .slice none 0 0, .int .i64 0, .int .i64 0, .int .i64 0] 61) w12 n19 w20 → 
      ∃ w21 : World, StoreAt (Addr.mk n19 0 none) 0 [.int .i64 x14, .slice x15_p x15_n x15_c, .int .i64 x16, .int .i64 x17, .int .i64 x18] w20 w21 ∧ 
      ∃ x22 : Int, w21.cell? ((Addr.mk n19 0 none).add 0) = some (.int .i64 x22) ∧ 
      cnd (x22 == (0 : Int))
      (∃ x23_p : Option Addr, ∃ x23_n : Nat, ∃ x23_c : Nat, w21.cell? ((Addr.mk n19 0 none).add 1) = some (.slice x23_p x23_n x23_c) ∧ 
        Calls Try.prog 36 #[.pointer r4, .slice x23_p x23_n x23_c] w21 fun e w24 => ∃ r25 : Int, ∃ r26 : Int, e = .returned (.tuple #[.int .i64 r25, .int .i64 r26]) ∧ 
        ∃ x27_p : Option Addr, ∃ x27_n : Nat, ∃ x27_c : Nat, CellsAt w24 (Addr.mk n5 0 none) 0 [.slice x27_p x27_n x27_c] ∧ 
        ∃ x28_p : Option Addr, ∃ x28_n : Nat, ∃ x28_c : Nat, w24.cell? ((Addr.mk n19 0 none).add 1) = some (.slice x28_p x28_n x28_c) ∧ 
        Calls Try.prog 60 #[.agg #[.slice x27_p x27_n x27_c], .slice x28_p x28_n x28_c] w24 fun e w29 => ∃ r30_p : Option Addr, ∃ r30_n : Nat, ∃ r30_c : Nat, ∃ r31 : Int, ∃ r32 : Int, e = .returned (.tuple #[.agg #[.slice r30_p r30_n r30_c], .int .i64 r31, .int .i64 r32]) ∧ 
        ∃ w33 : World, StoreAt (Addr.mk n5 0 none) 0 [.slice r30_p r30_n r30_c] w29 w33 ∧ 
        cnd (r25 != r31)
        (∃ x34_p : Option Addr, ∃ x34_n : Nat, ∃ x34_c : Nat, CellsAt w33.drew (Addr.mk n5 0 none) 0 [.slice x34_p x34_n x34_c] ∧ 
          ∃ w35 : World, StoreAt (Addr.mk n1 0 none) 0 [.slice x34_p x34_n x34_c] w33.drew w35 ∧ 
          ∃ x36_p : Option Addr, ∃ x36_n : Nat, ∃ x36_c : Nat, CellsAt w35 (Addr.mk n1 0 none) 0 [.slice x36_p x36_n x36_c] ∧ 
          K (.tuple #[.pointer r4, .agg #[.slice x36_p x36_n x36_c], .bool false]) w35)
        (cnd (r26 != r32)
          (∃ x37_p : Option Addr, ∃ x37_n : Nat, ∃ x37_c : Nat, CellsAt w33.drew (Addr.mk n5 0 none) 0 [.slice x37_p x37_n x37_c] ∧ 
            ∃ w38 : World, StoreAt (Addr.mk n1 0 none) 0 [.slice x37_p x37_n x37_c] w33.drew w38 ∧ 
            ∃ x39_p : Option Addr, ∃ x39_n : Nat, ∃ x39_c : Nat, CellsAt w38 (Addr.mk n1 0 none) 0 [.slice x39_p x39_n x39_c] ∧ 
            K (.tuple #[.pointer r4, .agg #[.slice x39_p x39_n x39_c], .bool false]) w38)
          (∃ k10, k10 < k9 ∧ I8 (IntKind.i64.wrap (i_11 + (1 : Int))) w33 k10)))
      (cnd (x22 == (1 : Int))
        (∃ x40 : Int, w21.cell? ((Addr.mk n19 0 none).add 2) = some (.int .i64 x40) ∧ 
          Calls Try.prog 37 #[.pointer r4, .int .i64 x40] w21 fun e w41 => ∃ r42 : Int, e = .returned (.int .i64 r42) ∧ 
          ∃ x43_p : Option Addr, ∃ x43_n : Nat, ∃ x43_c : Nat, CellsAt w41 (Addr.mk n5 0 none) 0 [.slice x43_p x43_n x43_c] ∧ 
          ∃ x44 : Int, w41.cell? ((Addr.mk n19 0 none).add 2) = some (.int .i64 x44) ∧ 
          Calls Try.prog 61 #[.agg #[.slice x43_p x43_n x43_c], .int .i64 x44] w41 fun e w45 => ∃ r46_p : Option Addr, ∃ r46_n : Nat, ∃ r46_c : Nat, ∃ r47 : Int, e = .returned (.tuple #[.agg #[.slice r46_p r46_n r46_c], .int .i64 r47]) ∧ 
          ∃ w48 : World, StoreAt (Addr.mk n5 0 none) 0 [.slice r46_p r46_n r46_c] w45 w48 ∧ 
          cnd (r42 != r47)
          (∃ x49_p : Option Addr, ∃ x49_n : Nat, ∃ x49_c : Nat, CellsAt w48.drew (Addr.mk n5 0 none) 0 [.slice x49_p x49_n x49_c] ∧ 
            ∃ w50 : World, StoreAt (Addr.mk n1 0 none) 0 [.slice x49_p x49_n x49_c] w48.drew w50 ∧ 
            ∃ x51_p : Option Addr, ∃ x51_n : Nat, ∃ x51_c : Nat, CellsAt w50 (Addr.mk n1 0 none) 0 [.slice x51_p x51_n x51_c] ∧ 
            K (.tuple #[.pointer r4, .agg #[.slice x51_p x51_n x51_c], .bool false]) w50)
          (∃ k10, k10 < k9 ∧ I8 (IntKind.i64.wrap (i_11 + (1 : Int))) w48 k10))
        (cnd (x22 == (2 : Int))
          (∃ x52 : Int, w21.cell? ((Addr.mk n19 0 none).add 2) = some (.int .i64 x52) ∧ 
            ∃ x53 : Int, w21.cell? ((Addr.mk n19 0 none).add 3) = some (.int .i64 x53) ∧ 
            ∃ x54 : Int, w21.cell? ((Addr.mk n19 0 none).add 4) = some (.int .i64 x54) ∧ 
            Calls Try.prog 38 #[.pointer r4, .int .i64 x52, .int .i64 x53, .int .i64 x54] w21 fun e w55 => ∃ r56 : Int, e = .returned (.int .i64 r56) ∧ 
            ∃ x57_p : Option Addr, ∃ x57_n : Nat, ∃ x57_c : Nat, CellsAt w55 (Addr.mk n5 0 none) 0 [.slice x57_p x57_n x57_c] ∧ 
            ∃ x58 : Int, w55.cell? ((Addr.mk n19 0 none).add 2) = some (.int .i64 x58) ∧ 
            ∃ x59 : Int, w55.cell? ((Addr.mk n19 0 none).add 3) = some (.int .i64 x59) ∧ 
            ∃ x60 : Int, w55.cell? ((Addr.mk n19 0 none).add 4) = some (.int .i64 x60) ∧ 
            Calls Try.prog 62 #[.agg #[.slice x57_p x57_n x57_c], .int .i64 x58, .int .i64 x59, .int .i64 x60] w55 fun e w61 => ∃ r62_p : Option Addr, ∃ r62_n : Nat, ∃ r62_c : Nat, ∃ r63 : Int, e = .returned (.tuple #[.agg #[.slice r62_p r62_n r62_c], .int .i64 r63]) ∧ 
            ∃ w64 : World, StoreAt (Addr.mk n5 0 none) 0 [.slice r62_p r62_n r62_c] w61 w64 ∧ 
            cnd (r56 != r63)
            (∃ x65_p : Option Addr, ∃ x65_n : Nat, ∃ x65_c : Nat, CellsAt w64.drew (Addr.mk n5 0 none) 0 [.slice x65_p x65_n x65_c] ∧ 
              ∃ w66 : World, StoreAt (Addr.mk n1 0 none) 0 [.slice x65_p x65_n x65_c] w64.drew w66 ∧ 
              ∃ x67_p : Option Addr, ∃ x67_n : Nat, ∃ x67_c : Nat, CellsAt w66 (Addr.mk n1 0 none) 0 [.slice x67_p x67_n x67_c] ∧ 
              K (.tuple #[.pointer r4, .agg #[.slice x67_p x67_n x67_c], .bool false]) w66)
            (∃ k10, k10 < k9 ∧ I8 (IntKind.i64.wrap (i_11 + (1 : Int))) w64 k10))
          (cnd (x22 == (3 : Int))
            (Calls Try.prog 34 #[.pointer r4] w21 fun e w68 => ∃ r69_p : Option Addr, ∃ r69_n : Nat, ∃ r69_c : Nat, e = .returned (.slice r69_p r69_n r69_c) ∧ 
              ∀ (n70 : Nat) (w71 : World), New (.cells #[] 59) w68 n70 w71 → 
              ∃ x72_p : Option Addr, ∃ x72_n : Nat, ∃ x72_c : Nat, CellsAt w71 (Addr.mk n5 0 none) 0 [.slice x72_p x72_n x72_c] ∧ 
              Calls Try.prog 63 #[.agg #[.slice x72_p x72_n x72_c]] w71 fun e w73 => ∃ r74_p : Option Addr, ∃ r74_n : Nat, ∃ r74_c : Nat, ∃ r75_p : Option Addr, ∃ r75_n : Nat, ∃ r75_c : Nat, e = .returned (.tuple #[.agg #[.slice r74_p r74_n r74_c], .slice r75_p r75_n r75_c]) ∧ 
              ∃ w76 : World, StoreAt (Addr.mk n5 0 none) 0 [.slice r74_p r74_n r74_c] w73 w76 ∧ 
              cnd ((r69_n : Int) != (r75_n : Int))
              (∃ x77_p : Option Addr, ∃ x77_n : Nat, ∃ x77_c : Nat, CellsAt w76.drew (Addr.mk n5 0 none) 0 [.slice x77_p x77_n x77_c] ∧ 
                ∃ w78 : World, StoreAt (Addr.mk n1 0 none) 0 [.slice x77_p x77_n x77_c] w76.drew w78 ∧ 
                ∃ x79_p : Option Addr, ∃ x79_n : Nat, ∃ x79_c : Nat, CellsAt w78 (Addr.mk n1 0 none) 0 [.slice x79_p x79_n x79_c] ∧ 
                K (.tuple #[.pointer r4, .agg #[.slice x79_p x79_n x79_c], .bool false]) w78)
              (∃ I80 : Int → World → Nat → Prop, (∃ k81, I80 0 w76 k81) ∧
                ∀ (j_83 : Int) (w84 : World) (k81 : Nat) (_ : Fr), I80 j_83 w84 k81 →
                cnd (decide (j_83 < (r69_n : Int)))
                  (ixK r69_p r69_n j_83 2 fun a85 =>
                    ∃ x86 : Int, ∃ x87 : Int, CellsAt w84.drew a85 0 [.int .i64 x86, .int .i64 x87] ∧ 
                    ixK r75_p r75_n j_83 2 fun a88 =>
                    ∃ x89 : Int, ∃ x90 : Int, CellsAt w84.drew a88 0 [.int .i64 x89, .int .i64 x90] ∧ 
                    ∃ w91 : World, ∃ r92 : Bool, (do eqGuard .neq 59 (.tmp 116) (.tmp 120) (.agg #[.int .i64 x86, .int .i64 x87]) (.agg #[.int .i64 x89, .int .i64 x90]); binOp .neq 59 (.agg #[.int .i64 x86, .int .i64 x87]) (.agg #[.int .i64 x89, .int .i64 x90])).run Try.prog w84.drew = .ok (.bool r92) w91 ∧ 
                    cnd r92
                    (∃ x93_p : Option Addr, ∃ x93_n : Nat, ∃ x93_c : Nat, CellsAt w91.drew (Addr.mk n5 0 none) 0 [.slice x93_p x93_n x93_c] ∧ 
                      ∃ w94 : World, StoreAt (Addr.mk n1 0 none) 0 [.slice x93_p x93_n x93_c] w91.drew w94 ∧ 
                      ∃ x95_p : Option Addr, ∃ x95_n : Nat, ∃ x95_c : Nat, CellsAt w94 (Addr.mk n1 0 none) 0 [.slice x95_p x95_n x95_c] ∧ 
                      K (.tuple #[.pointer r4, .agg #[.slice x95_p x95_n x95_c], .bool false]) w94)
                    (∃ k82, k82 < k81 ∧ I80 (IntKind.i64.wrap (j_83 + (1 : Int))) w91 k82))
                  (cnd ((0 : Int) != (0 : Int))
                    (∃ x96_p : Option Addr, ∃ x96_n : Nat, ∃ x96_c : Nat, CellsAt w84.drew (Addr.mk n5 0 none) 0 [.slice x96_p x96_n x96_c] ∧ 
                      ∃ w97 : World, StoreAt (Addr.mk n1 0 none) 0 [.slice x96_p x96_n x96_c] w84.drew w97 ∧ 
                      ∃ x98_p : Option Addr, ∃ x98_n : Nat, ∃ x98_c : Nat, CellsAt w97 (Addr.mk n1 0 none) 0 [.slice x98_p x98_n x98_c] ∧ 
                      K (.tuple #[.pointer r4, .agg #[.slice x98_p x98_n x98_c], .bool false]) w97)
                    (∃ k10, k10 < k9 ∧ I8 (IntKind.i64.wrap (i_11 + (1 : Int))) w84 k10))))
            (cnd ((0 : Int) != (0 : Int))
              (∃ x99_p : Option Addr, ∃ x99_n : Nat, ∃ x99_c : Nat, CellsAt w21.drew (Addr.mk n5 0 none) 0 [.slice x99_p x99_n x99_c] ∧ 
                ∃ w100 : World, StoreAt (Addr.mk n1 0 none) 0 [.slice x99_p x99_n x99_c] w21.drew w100 ∧ 
                ∃ x101_p : Option Addr, ∃ x101_n : Nat, ∃ x101_c : Nat, CellsAt w100 (Addr.mk n1 0 none) 0 [.slice x101_p x101_n x101_c] ∧ 
                K (.tuple #[.pointer r4, .agg #[.slice x101_p x101_n x101_c], .bool false]) w100)
              (∃ k10, k10 < k9 ∧ I8 (IntKind.i64.wrap (i_11 + (1 : Int))) w21 k10))))))
    (∃ x102_p : Option Addr, ∃ x102_n : Nat, ∃ x102_c : Nat, CellsAt w12.drew (Addr.mk n5 0 none) 0 [.slice x102_p x102_n x102_c] ∧ 
      ∃ w103 : World, StoreAt (Addr.mk n1 0 none) 0 [.slice x102_p x102_n x102_c] w12.drew w103 ∧ 
      ∃ x104_p : Option Addr, ∃ x104_n : Nat, ∃ x104_c : Nat, CellsAt w103 (Addr.mk n1 0 none) 0 [.slice x104_p x104_n x104_c] ∧ 
      K (.tuple #[.pointer r4, .agg #[.slice x104_p x104_n x104_c], .bool true]) w103))
    (∃ x105_p : Option Addr, ∃ x105_n : Nat, ∃ x105_c : Nat, CellsAt w12.drew (Addr.mk n5 0 none) 0 [.slice x105_p x105_n x105_c] ∧ 
    ∃ w106 : World, StoreAt (Addr.mk n1 0 none) 0 [.slice x105_p x105_n x105_c] w12.drew w106 ∧ 
    ∃ x107_p : Option Addr, ∃ x107_n : Nat, ∃ x107_c : Nat, CellsAt w106 (Addr.mk n1 0 none) 0 [.slice x107_p x107_n x107_c] ∧ 
    K (.tuple #[.pointer r4, .agg #[.slice x107_p x107_n x107_c], .bool true]) w106)
theorem fathomlaw02_Play.eq (l__p : Option Addr) (l__n : Nat) (l__c : Nat) (w : World) (K : Value → World → Prop) : wpF Try.prog Try.f28 (.two .leaf (.two .leaf (.two .leaf (.two (.two .leaf (.one (.loop [(7, 3)] (.two .leaf (.two (.one (.two .leaf (.two .leaf (.two (.two .leaf (.one (.two .leaf (.two .leaf (.two .leaf (.two .leaf (.two .leaf (.two .leaf (.two .leaf (.two (.two .leaf (.two .leaf (.two .leaf (.two .leaf (.two .leaf (.one (.loop [(15, 3)] .leaf))))))) .leaf)))))))))) .leaf)))) .leaf))))) .leaf)))) [.slice l__p l__n l__c] w K = fathomlaw02_Play.w l__p l__n l__c w K := by kernel_rfl
theorem fathomlaw02_Play.ok : fnOk Try.prog Try.f28 1 = true := by kernel_rfl
theorem fathomlaw02_Play.calls {l__p : Option Addr} {l__n : Nat} {l__c : Nat} {w : World} {R : Ending → World → Prop} (h : fathomlaw02_Play.w l__p l__n l__c w fun v w' => R (.returned v) w') : Calls Try.prog 28 #[.slice l__p l__n l__c] w R :=
  calls_of mixed Try.func28 fathomlaw02_Play.ok rfl (fun K => fathomlaw02_Play.eq l__p l__n l__c w K) h

/-! ### fathom/fathomlaw02.like: function 29 (named slots 11) cuts [(8, 40)] -/
def fathomlaw02_like.w (a_ : Option Addr) (w1_0_p : Option Addr) (w1_0_n : Nat) (w1_0_c : Nat) (w : World) (K : Value → World → Prop) : Prop :=
  ∀ (n1 : Nat) (w2 : World), New (.cells #[.slice w1_0_p w1_0_n w1_0_c] 45) w n1 w2 → 
  ∃ x3_p : Option Addr, ∃ x3_n : Nat, ∃ x3_c : Nat, CellsAt w2 (Addr.mk n1 0 none) 0 [.slice x3_p x3_n x3_c] ∧ 
  Calls Try.prog 64 #[.agg #[.slice x3_p x3_n x3_c]] w2 fun e w4 => ∃ r5_p : Option Addr, ∃ r5_n : Nat, ∃ r5_c : Nat, e = .returned (.slice r5_p r5_n r5_c) ∧ 
  ∃ J6 : World → Prop, (Calls Try.prog 39 #[.pointer a_] w4.drew fun e w7 => ∃ r8_p : Option Addr, ∃ r8_n : Nat, ∃ r8_c : Nat, e = .returned (.slice r8_p r8_n r8_c) ∧ 
  Calls Try.prog 32 #[.slice r8_p r8_n r8_c, .slice r5_p r5_n r5_c] w7 fun e w9 => ∃ r10 : Bool, e = .returned (.bool r10) ∧ 
  cnd (!r10)
  ((((K (.bool false) w9) ∧
(K (.bool false) w9)) ∧
((K (.bool false) w9) ∧
(K (.bool false) w9))) ∧
(((K (.bool false) w9) ∧
(K (.bool false) w9)) ∧
((K (.bool false) w9) ∧
(K (.bool false) w9))))
  ((Calls Try.prog 33 #[.pointer a_] w9 fun e w11 => ∃ r12 : Int, e = .returned (.int .i64 r12) ∧ 
  cnd (r12 != (r5_n : Int))
  (((K (.bool false) w11) ∧
(K (.bool false) w11)) ∧
((K (.bool false) w11) ∧
(K (.bool false) w11)))
  ((Calls Try.prog 40 #[.pointer a_] w11 fun e w13 => ∃ r14 : Int, e = .returned (.int .i64 r14) ∧ 
  ∃ x15_p : Option Addr, ∃ x15_n : Nat, ∃ x15_c : Nat, CellsAt w13 (Addr.mk n1 0 none) 0 [.slice x15_p x15_n x15_c] ∧ 
  Calls Try.prog 65 #[.agg #[.slice x15_p x15_n x15_c]] w13 fun e w16 => ∃ r17 : Int, e = .returned (.int .i64 r17) ∧ 
  cnd (r14 != r17)
  ((K (.bool false) w16) ∧
(K (.bool false) w16))
  ((Calls Try.prog 35 #[.pointer a_] w16 fun e w18 => ∃ r19 : Int, e = .returned (.int .i64 r19) ∧ 
  ∃ x20_p : Option Addr, ∃ x20_n : Nat, ∃ x20_c : Nat, CellsAt w18 (Addr.mk n1 0 none) 0 [.slice x20_p x20_n x20_c] ∧ 
  Calls Try.prog 66 #[.agg #[.slice x20_p x20_n x20_c]] w18 fun e w21 => ∃ r22 : Int, e = .returned (.int .i64 r22) ∧ 
  cnd (r19 != r22)
  (K (.bool false) w21)
  (J6 w21)) ∧
(∃ x23_p : Option Addr, ∃ x23_n : Nat, ∃ x23_c : Nat, CellsAt w16 (Addr.mk n1 0 none) 0 [.slice x23_p x23_n x23_c] ∧ 
  Calls Try.prog 35 #[.pointer a_] w16 fun e w24 => ∃ r25 : Int, e = .returned (.int .i64 r25) ∧ 
  Calls Try.prog 66 #[.agg #[.slice x23_p x23_n x23_c]] w24 fun e w26 => ∃ r27 : Int, e = .returned (.int .i64 r27) ∧ 
  cnd (r25 != r27)
  (K (.bool false) w26)
  (J6 w26)))) ∧
(∃ x28_p : Option Addr, ∃ x28_n : Nat, ∃ x28_c : Nat, CellsAt w11 (Addr.mk n1 0 none) 0 [.slice x28_p x28_n x28_c] ∧ 
  Calls Try.prog 40 #[.pointer a_] w11 fun e w29 => ∃ r30 : Int, e = .returned (.int .i64 r30) ∧ 
  Calls Try.prog 65 #[.agg #[.slice x28_p x28_n x28_c]] w29 fun e w31 => ∃ r32 : Int, e = .returned (.int .i64 r32) ∧ 
  cnd (r30 != r32)
  ((K (.bool false) w31) ∧
(K (.bool false) w31))
  ((Calls Try.prog 35 #[.pointer a_] w31 fun e w33 => ∃ r34 : Int, e = .returned (.int .i64 r34) ∧ 
  ∃ x35_p : Option Addr, ∃ x35_n : Nat, ∃ x35_c : Nat, CellsAt w33 (Addr.mk n1 0 none) 0 [.slice x35_p x35_n x35_c] ∧ 
  Calls Try.prog 66 #[.agg #[.slice x35_p x35_n x35_c]] w33 fun e w36 => ∃ r37 : Int, e = .returned (.int .i64 r37) ∧ 
  cnd (r34 != r37)
  (K (.bool false) w36)
  (J6 w36)) ∧
(∃ x38_p : Option Addr, ∃ x38_n : Nat, ∃ x38_c : Nat, CellsAt w31 (Addr.mk n1 0 none) 0 [.slice x38_p x38_n x38_c] ∧ 
  Calls Try.prog 35 #[.pointer a_] w31 fun e w39 => ∃ r40 : Int, e = .returned (.int .i64 r40) ∧ 
  Calls Try.prog 66 #[.agg #[.slice x38_p x38_n x38_c]] w39 fun e w41 => ∃ r42 : Int, e = .returned (.int .i64 r42) ∧ 
  cnd (r40 != r42)
  (K (.bool false) w41)
  (J6 w41)))))) ∧
(Calls Try.prog 33 #[.pointer a_] w9 fun e w43 => ∃ r44 : Int, e = .returned (.int .i64 r44) ∧ 
  cnd (r44 != (r5_n : Int))
  (((K (.bool false) w43) ∧
(K (.bool false) w43)) ∧
((K (.bool false) w43) ∧
(K (.bool false) w43)))
  ((Calls Try.prog 40 #[.pointer a_] w43 fun e w45 => ∃ r46 : Int, e = .returned (.int .i64 r46) ∧ 
  ∃ x47_p : Option Addr, ∃ x47_n : Nat, ∃ x47_c : Nat, CellsAt w45 (Addr.mk n1 0 none) 0 [.slice x47_p x47_n x47_c] ∧ 
  Calls Try.prog 65 #[.agg #[.slice x47_p x47_n x47_c]] w45 fun e w48 => ∃ r49 : Int, e = .returned (.int .i64 r49) ∧ 
  cnd (r46 != r49)
  ((K (.bool false) w48) ∧
(K (.bool false) w48))
  ((Calls Try.prog 35 #[.pointer a_] w48 fun e w50 => ∃ r51 : Int, e = .returned (.int .i64 r51) ∧ 
  ∃ x52_p : Option Addr, ∃ x52_n : Nat, ∃ x52_c : Nat, CellsAt w50 (Addr.mk n1 0 none) 0 [.slice x52_p x52_n x52_c] ∧ 
  Calls Try.prog 66 #[.agg #[.slice x52_p x52_n x52_c]] w50 fun e w53 => ∃ r54 : Int, e = .returned (.int .i64 r54) ∧ 
  cnd (r51 != r54)
  (K (.bool false) w53)
  (J6 w53)) ∧
(∃ x55_p : Option Addr, ∃ x55_n : Nat, ∃ x55_c : Nat, CellsAt w48 (Addr.mk n1 0 none) 0 [.slice x55_p x55_n x55_c] ∧ 
  Calls Try.prog 35 #[.pointer a_] w48 fun e w56 => ∃ r57 : Int, e = .returned (.int .i64 r57) ∧ 
  Calls Try.prog 66 #[.agg #[.slice x55_p x55_n x55_c]] w56 fun e w58 => ∃ r59 : Int, e = .returned (.int .i64 r59) ∧ 
  cnd (r57 != r59)
  (K (.bool false) w58)
  (J6 w58)))) ∧
(∃ x60_p : Option Addr, ∃ x60_n : Nat, ∃ x60_c : Nat, CellsAt w43 (Addr.mk n1 0 none) 0 [.slice x60_p x60_n x60_c] ∧ 
  Calls Try.prog 40 #[.pointer a_] w43 fun e w61 => ∃ r62 : Int, e = .returned (.int .i64 r62) ∧ 
  Calls Try.prog 65 #[.agg #[.slice x60_p x60_n x60_c]] w61 fun e w63 => ∃ r64 : Int, e = .returned (.int .i64 r64) ∧ 
  cnd (r62 != r64)
  ((K (.bool false) w63) ∧
(K (.bool false) w63))
  ((Calls Try.prog 35 #[.pointer a_] w63 fun e w65 => ∃ r66 : Int, e = .returned (.int .i64 r66) ∧ 
  ∃ x67_p : Option Addr, ∃ x67_n : Nat, ∃ x67_c : Nat, CellsAt w65 (Addr.mk n1 0 none) 0 [.slice x67_p x67_n x67_c] ∧ 
  Calls Try.prog 66 #[.agg #[.slice x67_p x67_n x67_c]] w65 fun e w68 => ∃ r69 : Int, e = .returned (.int .i64 r69) ∧ 
  cnd (r66 != r69)
  (K (.bool false) w68)
  (J6 w68)) ∧
(∃ x70_p : Option Addr, ∃ x70_n : Nat, ∃ x70_c : Nat, CellsAt w63 (Addr.mk n1 0 none) 0 [.slice x70_p x70_n x70_c] ∧ 
  Calls Try.prog 35 #[.pointer a_] w63 fun e w71 => ∃ r72 : Int, e = .returned (.int .i64 r72) ∧ 
  Calls Try.prog 66 #[.agg #[.slice x70_p x70_n x70_c]] w71 fun e w73 => ∃ r74 : Int, e = .returned (.int .i64 r74) ∧ 
  cnd (r72 != r74)
  (K (.bool false) w73)
  (J6 w73)))))))) ∧
  ∀ (w75 : World) (_ : Fr), J6 w75 → 
  ∃ I76 : Int → World → Nat → Prop, (∃ k77, I76 0 w75 k77) ∧
  ∀ (i_79 : Int) (w80 : World) (k77 : Nat) (_ : Fr), I76 i_79 w80 k77 →
  cnd (decide (i_79 < (r5_n : Int)))
    (ixK r5_p r5_n i_79 1 fun a81 =>
      ∃ x82 : Int, w80.cell? a81 = some (.int .i64 x82) ∧ 
      Calls Try.prog 30 #[.pointer a_, .int .i64 x82] w80 fun e w83 => ∃ r84_p : Option Addr, ∃ r84_n : Nat, ∃ r84_c : Nat, ∃ r85 : Bool, e = .returned (.tuple #[.slice r84_p r84_n r84_c, .bool r85]) ∧ 
      ∃ x86_p : Option Addr, ∃ x86_n : Nat, ∃ x86_c : Nat, CellsAt w83.drew (Addr.mk n1 0 none) 0 [.slice x86_p x86_n x86_c] ∧ 
      ixK r5_p r5_n i_79 1 fun a87 =>
      ∃ x88 : Int, w83.drew.cell? a87 = some (.int .i64 x88) ∧ 
      Calls Try.prog 31 #[.agg #[.slice x86_p x86_n x86_c], .int .i64 x88] w83.drew fun e w89 => ∃ r90_p : Option Addr, ∃ r90_n : Nat, ∃ r90_c : Nat, ∃ r91 : Bool, e = .returned (.tuple #[.slice r90_p r90_n r90_c, .bool r91]) ∧ 
      cnd (!r85)
      (K (.bool false) w89)
      (Calls Try.prog 32 #[.slice r84_p r84_n r84_c, .slice r90_p r90_n r90_c] w89 fun e w92 => ∃ r93 : Bool, e = .returned (.bool r93) ∧ 
      cnd (!r93)
      (K (.bool false) w92)
      (∃ k78, k78 < k77 ∧ I76 (IntKind.i64.wrap (i_79 + (1 : Int))) w92 k78)))
    (K (.bool true) w80)
theorem fathomlaw02_like.eq (a_ : Option Addr) (w1_0_p : Option Addr) (w1_0_n : Nat) (w1_0_c : Nat) (w : World) (K : Value → World → Prop) : wpF Try.prog Try.f29 (.two .leaf (.two .leaf (.cut [] .leaf (.two (.two .leaf (.one (.loop [(6, 3)] .leaf))) .leaf)))) [.pointer a_, .agg #[.slice w1_0_p w1_0_n w1_0_c]] w K = fathomlaw02_like.w a_ w1_0_p w1_0_n w1_0_c w K := by kernel_rfl
theorem fathomlaw02_like.ok : fnOk Try.prog Try.f29 2 = true := by kernel_rfl
theorem fathomlaw02_like.calls {a_ : Option Addr} {w1_0_p : Option Addr} {w1_0_n : Nat} {w1_0_c : Nat} {w : World} {R : Ending → World → Prop} (h : fathomlaw02_like.w a_ w1_0_p w1_0_n w1_0_c w fun v w' => R (.returned v) w') : Calls Try.prog 29 #[.pointer a_, .agg #[.slice w1_0_p w1_0_n w1_0_c]] w R :=
  calls_of mixed Try.func29 fathomlaw02_like.ok rfl (fun K => fathomlaw02_like.eq a_ w1_0_p w1_0_n w1_0_c w K) h

/-! ### (*fathom/arena.Arena).Get: function 30 (named slots 7) -/
def arena_Arena_Get.w (a_ : Option Addr) (at_ : Int) (w : World) (K : Value → World → Prop) : Prop :=
  Calls Try.prog 67 #[.pointer a_, .int .i64 at_] w fun e w1 => ∃ r2 : Bool, e = .returned (.bool r2) ∧ 
  cnd (!r2)
  (K (.tuple #[.slice none 0 0, .bool false]) w1)
  (∃ a3 : Addr, a_ = some a3 ∧ ∃ x4_p : Option Addr, ∃ x4_n : Nat, ∃ x4_c : Nat, w1.cell? (a3.add 1) = some (.slice x4_p x4_n x4_c) ∧ 
    ixK x4_p x4_n at_ 1 fun a5 =>
    ∃ x6 : Int, w1.cell? a5 = some (.int .i64 x6) ∧ 
    ∃ w7 : World, ∃ r8_p : Option Addr, ∃ r8_n : Nat, ∃ r8_c : Nat, (Instr.makeSlice 49 (.int .i64 x6) (.int .i64 x6)).run Try.prog w1 = .ok (.slice r8_p r8_n r8_c) w7 ∧ 
    Calls Try.prog 68 #[.pointer a_, .int .i64 at_] w7 fun e w9 => ∃ r10_p : Option Addr, ∃ r10_n : Nat, ∃ r10_c : Nat, e = .returned (.slice r10_p r10_n r10_c) ∧ 
    ∃ w11 : World, ∃ r12 : Int, (Builtin.copy_ #[49, 49] 3 #[.slice r8_p r8_n r8_c, .slice r10_p r10_n r10_c]).run Try.prog w9 = .ok (.int .i64 r12) w11 ∧ 
    K (.tuple #[.slice r8_p r8_n r8_c, .bool true]) w11)
theorem arena_Arena_Get.eq (a_ : Option Addr) (at_ : Int) (w : World) (K : Value → World → Prop) : wpF Try.prog Try.f30 .leaf [.pointer a_, .int .i64 at_] w K = arena_Arena_Get.w a_ at_ w K := by kernel_rfl
theorem arena_Arena_Get.ok : fnOk Try.prog Try.f30 2 = true := by kernel_rfl
theorem arena_Arena_Get.calls {a_ : Option Addr} {at_ : Int} {w : World} {R : Ending → World → Prop} (h : arena_Arena_Get.w a_ at_ w fun v w' => R (.returned v) w') : Calls Try.prog 30 #[.pointer a_, .int .i64 at_] w R :=
  calls_of mixed Try.func30 arena_Arena_Get.ok rfl (fun K => arena_Arena_Get.eq a_ at_ w K) h

/-! ### fathom/fathomref02.Get: function 31 (named slots 7) -/
def fathomref02_Get.w (a_0_p : Option Addr) (a_0_n : Nat) (a_0_c : Nat) (place_ : Int) (w : World) (K : Value → World → Prop) : Prop :=
  ∀ (n1 : Nat) (w2 : World), New (.cells #[.slice a_0_p a_0_n a_0_c] 45) w n1 w2 → 
  ∃ x3_p : Option Addr, ∃ x3_n : Nat, ∃ x3_c : Nat, CellsAt w2 (Addr.mk n1 0 none) 0 [.slice x3_p x3_n x3_c] ∧ 
  Calls Try.prog 69 #[.agg #[.slice x3_p x3_n x3_c], .int .i64 place_] w2 fun e w4 => ∃ r5 : Int, e = .returned (.int .i64 r5) ∧ 
  cnd (decide (r5 < (0 : Int)))
  (K (.tuple #[.slice none 0 0, .bool false]) w4)
  (∃ x6_p : Option Addr, ∃ x6_n : Nat, ∃ x6_c : Nat, w4.cell? ((Addr.mk n1 0 none).add 0) = some (.slice x6_p x6_n x6_c) ∧ 
    ixK x6_p x6_n r5 2 fun a7 =>
    ∃ x8_p : Option Addr, ∃ x8_n : Nat, ∃ x8_c : Nat, w4.cell? (a7.add 0) = some (.slice x8_p x8_n x8_c) ∧ 
    K (.tuple #[.slice x8_p x8_n x8_c, .bool true]) w4)
theorem fathomref02_Get.eq (a_0_p : Option Addr) (a_0_n : Nat) (a_0_c : Nat) (place_ : Int) (w : World) (K : Value → World → Prop) : wpF Try.prog Try.f31 .leaf [.agg #[.slice a_0_p a_0_n a_0_c], .int .i64 place_] w K = fathomref02_Get.w a_0_p a_0_n a_0_c place_ w K := by kernel_rfl
theorem fathomref02_Get.ok : fnOk Try.prog Try.f31 2 = true := by kernel_rfl
theorem fathomref02_Get.calls {a_0_p : Option Addr} {a_0_n : Nat} {a_0_c : Nat} {place_ : Int} {w : World} {R : Ending → World → Prop} (h : fathomref02_Get.w a_0_p a_0_n a_0_c place_ w fun v w' => R (.returned v) w') : Calls Try.prog 31 #[.agg #[.slice a_0_p a_0_n a_0_c], .int .i64 place_] w R :=
  calls_of mixed Try.func31 fathomref02_Get.ok rfl (fun K => fathomref02_Get.eq a_0_p a_0_n a_0_c place_ w K) h

/-! ### fathom/fathomref01.Ints: function 32 (named slots 6) -/
def fathomref01_Ints.w (a__p : Option Addr) (a__n : Nat) (a__c : Nat) (b__p : Option Addr) (b__n : Nat) (b__c : Nat) (w : World) (K : Value → World → Prop) : Prop :=
  cnd ((a__n : Int) != (b__n : Int))
  (K (.bool false) w)
  (∃ I1 : Int → World → Nat → Prop, (∃ k2, I1 0 w k2) ∧
    ∀ (i_4 : Int) (w5 : World) (k2 : Nat) (_ : Fr), I1 i_4 w5 k2 →
    cnd (decide (i_4 < (a__n : Int)))
      (ixK a__p a__n i_4 1 fun a6 =>
        ∃ x7 : Int, w5.drew.cell? a6 = some (.int .i64 x7) ∧ 
        ixK b__p b__n i_4 1 fun a8 =>
        ∃ x9 : Int, w5.drew.cell? a8 = some (.int .i64 x9) ∧ 
        cnd (x7 != x9)
        (K (.bool false) w5.drew)
        (∃ k3, k3 < k2 ∧ I1 (IntKind.i64.wrap (i_4 + (1 : Int))) w5.drew k3))
      (K (.bool true) w5))
theorem fathomref01_Ints.eq (a__p : Option Addr) (a__n : Nat) (a__c : Nat) (b__p : Option Addr) (b__n : Nat) (b__c : Nat) (w : World) (K : Value → World → Prop) : wpF Try.prog Try.f32 (.two .leaf (.two .leaf (.two (.two .leaf (.one (.loop [(5, 3)] .leaf))) .leaf))) [.slice a__p a__n a__c, .slice b__p b__n b__c] w K = fathomref01_Ints.w a__p a__n a__c b__p b__n b__c w K := by kernel_rfl
theorem fathomref01_Ints.ok : fnOk Try.prog Try.f32 2 = true := by kernel_rfl
theorem fathomref01_Ints.calls {a__p : Option Addr} {a__n : Nat} {a__c : Nat} {b__p : Option Addr} {b__n : Nat} {b__c : Nat} {w : World} {R : Ending → World → Prop} (h : fathomref01_Ints.w a__p a__n a__c b__p b__n b__c w fun v w' => R (.returned v) w') : Calls Try.prog 32 #[.slice a__p a__n a__c, .slice b__p b__n b__c] w R :=
  calls_of mixed Try.func32 fathomref01_Ints.ok rfl (fun K => fathomref01_Ints.eq a__p a__n a__c b__p b__n b__c w K) h

/-! ### (*fathom/arena.Arena).Count: function 33 (named slots 3) -/
def arena_Arena_Count.w (a_ : Option Addr) (w : World) (K : Value → World → Prop) : Prop :=
  cnd a_.isNone
  (K (.int .i64 0) w)
  (∃ a1 : Addr, a_ = some a1 ∧ ∃ x2 : Int, w.cell? (a1.add 3) = some (.int .i64 x2) ∧ 
    K (.int .i64 x2) w)
theorem arena_Arena_Count.eq (a_ : Option Addr) (w : World) (K : Value → World → Prop) : wpF Try.prog Try.f33 .leaf [.pointer a_] w K = arena_Arena_Count.w a_ w K := by kernel_rfl
theorem arena_Arena_Count.ok : fnOk Try.prog Try.f33 1 = true := by kernel_rfl
theorem arena_Arena_Count.calls {a_ : Option Addr} {w : World} {R : Ending → World → Prop} (h : arena_Arena_Count.w a_ w fun v w' => R (.returned v) w') : Calls Try.prog 33 #[.pointer a_] w R :=
  calls_of mixed Try.func33 arena_Arena_Count.ok rfl (fun K => arena_Arena_Count.eq a_ w K) h

/-! ### (*fathom/arena.Arena).Pack: function 34 (named slots 10) -/
def arena_Arena_Pack.w (a_ : Option Addr) (w : World) (K : Value → World → Prop) : Prop :=
  Calls Try.prog 39 #[.pointer a_] w fun e w1 => ∃ r2_p : Option Addr, ∃ r2_n : Nat, ∃ r2_c : Nat, e = .returned (.slice r2_p r2_n r2_c) ∧ 
  ∃ I3 : Option Addr → Nat → Nat → Int → Int → World → Nat → Prop, (∃ k4, I3 none 0 0 0 0 w1 k4) ∧
  ∀ (l_6_p : Option Addr) (l_6_n : Nat) (l_6_c : Nat) (to_7 : Int) (v8 : Int) (w9 : World) (k4 : Nat) (_ : Fr), I3 l_6_p l_6_n l_6_c to_7 v8 w9 k4 →
  cnd (decide (v8 < (r2_n : Int)))
    (ixK r2_p r2_n v8 1 fun a10 =>
      ∃ x11 : Int, w9.cell? a10 = some (.int .i64 x11) ∧ 
      ∃ a12 : Addr, a_ = some a12 ∧ ∃ x13_p : Option Addr, ∃ x13_n : Nat, ∃ x13_c : Nat, w9.cell? (a12.add 1) = some (.slice x13_p x13_n x13_c) ∧ 
      ixK x13_p x13_n x11 1 fun a14 =>
      ∃ x15 : Int, w9.cell? a14 = some (.int .i64 x15) ∧ 
      ∀ (n16 : Nat) (w17 : World), New (.cells #[.int .i64 x11, .int .i64 to_7] 59) w9 n16 w17 → 
      ∃ w18 : World, ∃ r19_p : Option Addr, ∃ r19_n : Nat, ∃ r19_c : Nat, (Builtin.append_ #[56, 56] 56 #[.slice l_6_p l_6_n l_6_c, .slice (some (Addr.mk n16 0 none)) 1 1]).run Try.prog w17 = .ok (.slice r19_p r19_n r19_c) w18 ∧ 
      ∃ a20 : Addr, a_ = some a20 ∧ ∃ x21_p : Option Addr, ∃ x21_n : Nat, ∃ x21_c : Nat, w18.drew.cell? (a20.add 1) = some (.slice x21_p x21_n x21_c) ∧ 
      slK x21_p x21_n x21_c 1 (some to_7) (some (IntKind.i64.wrap (to_7 + (IntKind.i64.wrap ((2 : Int) + x15))))) none fun s22_p s22_n s22_c =>
      ∃ a23 : Addr, a_ = some a23 ∧ ∃ x24_p : Option Addr, ∃ x24_n : Nat, ∃ x24_c : Nat, w18.drew.cell? (a23.add 1) = some (.slice x24_p x24_n x24_c) ∧ 
      slK x24_p x24_n x24_c 1 (some x11) (some (IntKind.i64.wrap (x11 + (IntKind.i64.wrap ((2 : Int) + x15))))) none fun s25_p s25_n s25_c =>
      ∃ w26 : World, ∃ r27 : Int, (Builtin.copy_ #[49, 49] 3 #[.slice s22_p s22_n s22_c, .slice s25_p s25_n s25_c]).run Try.prog w18.drew = .ok (.int .i64 r27) w26 ∧ 
      ∃ k5, k5 < k4 ∧ I3 r19_p r19_n r19_c (IntKind.i64.wrap (to_7 + (IntKind.i64.wrap ((2 : Int) + x15)))) (IntKind.i64.wrap (v8 + (1 : Int))) w26 k5)
    (cnd a_.isNone
      (K (.slice l_6_p l_6_n l_6_c) w9)
      (∃ a28 : Addr, a_ = some a28 ∧ ∃ x29_p : Option Addr, ∃ x29_n : Nat, ∃ x29_c : Nat, w9.cell? (a28.add 1) = some (.slice x29_p x29_n x29_c) ∧ 
        slK x29_p x29_n x29_c 1 none (some to_7) none fun s30_p s30_n s30_c =>
        ∀ (n31 : Nat) (w32 : World), New (.map #[] 0) w9 n31 w32 → 
        ∃ a33 : Addr, a_ = some a33 ∧ ∃ w34 : World, StoreAt (a33.add 1) 0 [.slice s30_p s30_n s30_c] w32 w34 ∧ 
        ∃ a35 : Addr, a_ = some a35 ∧ ∃ w36 : World, StoreAt (a35.add 4) 0 [.int .i64 0] w34 w36 ∧ 
        ∃ a37 : Addr, a_ = some a37 ∧ ∃ w38 : World, StoreAt (a37.add 2) 0 [.map (some n31)] w36 w38 ∧ 
        ∃ I39 : Int → World → Nat → Prop, (∃ k40, I39 0 w38 k40) ∧
        ∀ (v42 : Int) (w43 : World) (k40 : Nat) (_ : Fr), I39 v42 w43 k40 →
        cnd (decide (v42 < (l_6_n : Int)))
          (ixK l_6_p l_6_n v42 2 fun a44 =>
            ∃ x45 : Int, ∃ x46 : Int, CellsAt w43 a44 0 [.int .i64 x45, .int .i64 x46] ∧ 
            ∀ (n47 : Nat) (w48 : World), New (.cells #[.int .i64 0, .int .i64 0] 59) w43 n47 w48 → 
            ∃ w49 : World, StoreAt (Addr.mk n47 0 none) 0 [.int .i64 x45, .int .i64 x46] w48 w49 ∧ 
            ∃ a50 : Addr, a_ = some a50 ∧ ∃ x51 : Option Nat, w49.drew.cell? (a50.add 2) = some (.map x51) ∧ 
            ∃ x52 : Int, w49.drew.cell? ((Addr.mk n47 0 none).add 1) = some (.int .i64 x52) ∧ 
            ∃ w53 : World, (Instr.mapUpdate 62 (.map x51) (.int .i64 x52) (.bool true)).run Try.prog w49.drew = .ok () w53 ∧ 
            ∃ k41, k41 < k40 ∧ I39 (IntKind.i64.wrap (v42 + (1 : Int))) w53 k41)
          (K (.slice l_6_p l_6_n l_6_c) w43)))
theorem arena_Arena_Pack.eq (a_ : Option Addr) (w : World) (K : Value → World → Prop) : wpF Try.prog Try.f34 (.two .leaf (.two .leaf (.two .leaf (.two (.two .leaf (.one (.loop [(3, 56), (4, 3), (13, 3)] .leaf))) (.two .leaf (.two .leaf (.two (.two .leaf (.one (.loop [(75, 3)] .leaf))) .leaf))))))) [.pointer a_] w K = arena_Arena_Pack.w a_ w K := by kernel_rfl
theorem arena_Arena_Pack.ok : fnOk Try.prog Try.f34 1 = true := by kernel_rfl
theorem arena_Arena_Pack.calls {a_ : Option Addr} {w : World} {R : Ending → World → Prop} (h : arena_Arena_Pack.w a_ w fun v w' => R (.returned v) w') : Calls Try.prog 34 #[.pointer a_] w R :=
  calls_of mixed Try.func34 arena_Arena_Pack.ok rfl (fun K => arena_Arena_Pack.eq a_ w K) h

/-! ### (*fathom/arena.Arena).Waste: function 35 (named slots 3) -/
def arena_Arena_Waste.w (a_ : Option Addr) (w : World) (K : Value → World → Prop) : Prop :=
  cnd a_.isNone
  (K (.int .i64 0) w)
  (∃ a1 : Addr, a_ = some a1 ∧ ∃ x2 : Int, w.cell? (a1.add 4) = some (.int .i64 x2) ∧ 
    K (.int .i64 x2) w)
theorem arena_Arena_Waste.eq (a_ : Option Addr) (w : World) (K : Value → World → Prop) : wpF Try.prog Try.f35 .leaf [.pointer a_] w K = arena_Arena_Waste.w a_ w K := by kernel_rfl
theorem arena_Arena_Waste.ok : fnOk Try.prog Try.f35 1 = true := by kernel_rfl
theorem arena_Arena_Waste.calls {a_ : Option Addr} {w : World} {R : Ending → World → Prop} (h : arena_Arena_Waste.w a_ w fun v w' => R (.returned v) w') : Calls Try.prog 35 #[.pointer a_] w R :=
  calls_of mixed Try.func35 arena_Arena_Waste.ok rfl (fun K => arena_Arena_Waste.eq a_ w K) h

/-! ### (*fathom/arena.Arena).Add: function 36 (named slots 7) -/
def arena_Arena_Add.w (a_ : Option Addr) (c__p : Option Addr) (c__n : Nat) (c__c : Nat) (w : World) (K : Value → World → Prop) : Prop :=
  cnd a_.isNone
  (K (.tuple #[.int .i64 0, .int .i64 5]) w)
  (∃ a1 : Addr, a_ = some a1 ∧ ∃ x2 : Bool, w.cell? (a1.add 0) = some (.bool x2) ∧ 
  cnd (!x2)
  (K (.tuple #[.int .i64 0, .int .i64 5]) w)
  (Calls Try.prog 70 #[.slice c__p c__n c__c] w fun e w3 => ∃ r4 : Int, e = .returned (.int .i64 r4) ∧ 
    cnd (r4 != (0 : Int))
    (K (.tuple #[.int .i64 0, .int .i64 1]) w3)
    (∃ a5 : Addr, a_ = some a5 ∧ ∃ x6_p : Option Addr, ∃ x6_n : Nat, ∃ x6_c : Nat, w3.cell? (a5.add 1) = some (.slice x6_p x6_n x6_c) ∧ 
      cnd (decide ((IntKind.i64.wrap ((c__n : Int) + (2 : Int))) > (IntKind.i64.wrap ((4194304 : Int) - (x6_n : Int)))))
      (K (.tuple #[.int .i64 0, .int .i64 5]) w3)
      (∃ a7 : Addr, a_ = some a7 ∧ ∃ x8_p : Option Addr, ∃ x8_n : Nat, ∃ x8_c : Nat, w3.cell? (a7.add 1) = some (.slice x8_p x8_n x8_c) ∧ 
        ∃ a9 : Addr, a_ = some a9 ∧ ∃ x10_p : Option Addr, ∃ x10_n : Nat, ∃ x10_c : Nat, w3.cell? (a9.add 1) = some (.slice x10_p x10_n x10_c) ∧ 
        ∀ (n11 : Nat) (w12 : World), New (.cells #[.int .i64 (c__n : Int), .int .i64 1] 3) w3 n11 w12 → 
        ∃ w13 : World, ∃ r14_p : Option Addr, ∃ r14_n : Nat, ∃ r14_c : Nat, (Builtin.append_ #[49, 49] 49 #[.slice x10_p x10_n x10_c, .slice (some (Addr.mk n11 0 none)) 2 2]).run Try.prog w12 = .ok (.slice r14_p r14_n r14_c) w13 ∧ 
        ∃ w15 : World, ∃ r16_p : Option Addr, ∃ r16_n : Nat, ∃ r16_c : Nat, (Builtin.append_ #[49, 49] 49 #[.slice r14_p r14_n r14_c, .slice c__p c__n c__c]).run Try.prog w13 = .ok (.slice r16_p r16_n r16_c) w15 ∧ 
        ∃ a17 : Addr, a_ = some a17 ∧ ∃ w18 : World, StoreAt (a17.add 1) 0 [.slice r16_p r16_n r16_c] w15 w18 ∧ 
        ∃ a19 : Addr, a_ = some a19 ∧ ∃ x20 : Option Nat, w18.cell? (a19.add 2) = some (.map x20) ∧ 
        ∃ w21 : World, (Instr.mapUpdate 62 (.map x20) (.int .i64 (x8_n : Int)) (.bool true)).run Try.prog w18 = .ok () w21 ∧ 
        ∃ a22 : Addr, a_ = some a22 ∧ ∃ x23 : Int, w21.cell? (a22.add 3) = some (.int .i64 x23) ∧ 
        ∃ a24 : Addr, a_ = some a24 ∧ ∃ w25 : World, StoreAt (a24.add 3) 0 [.int .i64 (IntKind.i64.wrap (x23 + (1 : Int)))] w21 w25 ∧ 
        K (.tuple #[.int .i64 (x8_n : Int), .int .i64 0]) w25))))
theorem arena_Arena_Add.eq (a_ : Option Addr) (c__p : Option Addr) (c__n : Nat) (c__c : Nat) (w : World) (K : Value → World → Prop) : wpF Try.prog Try.f36 .leaf [.pointer a_, .slice c__p c__n c__c] w K = arena_Arena_Add.w a_ c__p c__n c__c w K := by kernel_rfl
theorem arena_Arena_Add.ok : fnOk Try.prog Try.f36 2 = true := by kernel_rfl
theorem arena_Arena_Add.calls {a_ : Option Addr} {c__p : Option Addr} {c__n : Nat} {c__c : Nat} {w : World} {R : Ending → World → Prop} (h : arena_Arena_Add.w a_ c__p c__n c__c w fun v w' => R (.returned v) w') : Calls Try.prog 36 #[.pointer a_, .slice c__p c__n c__c] w R :=
  calls_of mixed Try.func36 arena_Arena_Add.ok rfl (fun K => arena_Arena_Add.eq a_ c__p c__n c__c w K) h

/-! ### (*fathom/arena.Arena).Drop: function 37 (named slots 5) -/
def arena_Arena_Drop.w (a_ : Option Addr) (at_ : Int) (w : World) (K : Value → World → Prop) : Prop :=
  Calls Try.prog 67 #[.pointer a_, .int .i64 at_] w fun e w1 => ∃ r2 : Bool, e = .returned (.bool r2) ∧ 
  cnd (!r2)
  (K (.int .i64 4) w1)
  (∃ a3 : Addr, a_ = some a3 ∧ ∃ x4_p : Option Addr, ∃ x4_n : Nat, ∃ x4_c : Nat, w1.cell? (a3.add 1) = some (.slice x4_p x4_n x4_c) ∧ 
    ixK x4_p x4_n (IntKind.i64.wrap (at_ + (1 : Int))) 1 fun a5 =>
    ∃ w6 : World, StoreAt a5 0 [.int .i64 2] w1 w6 ∧ 
    ∃ a7 : Addr, a_ = some a7 ∧ ∃ x8 : Option Nat, w6.cell? (a7.add 2) = some (.map x8) ∧ 
    ∃ w9 : World, (Builtin.delete_ #[62, 3] 0 #[.map x8, .int .i64 at_]).run Try.prog w6 = .ok (.tuple #[]) w9 ∧ 
    ∃ a10 : Addr, a_ = some a10 ∧ ∃ x11 : Int, w9.cell? (a10.add 3) = some (.int .i64 x11) ∧ 
    ∃ a12 : Addr, a_ = some a12 ∧ ∃ w13 : World, StoreAt (a12.add 3) 0 [.int .i64 (IntKind.i64.wrap (x11 - (1 : Int)))] w9 w13 ∧ 
    ∃ a14 : Addr, a_ = some a14 ∧ ∃ x15 : Int, w13.drew.cell? (a14.add 4) = some (.int .i64 x15) ∧ 
    ∃ a16 : Addr, a_ = some a16 ∧ ∃ x17_p : Option Addr, ∃ x17_n : Nat, ∃ x17_c : Nat, w13.drew.cell? (a16.add 1) = some (.slice x17_p x17_n x17_c) ∧ 
    ixK x17_p x17_n at_ 1 fun a18 =>
    ∃ x19 : Int, w13.drew.cell? a18 = some (.int .i64 x19) ∧ 
    ∃ a20 : Addr, a_ = some a20 ∧ ∃ w21 : World, StoreAt (a20.add 4) 0 [.int .i64 (IntKind.i64.wrap (x15 + (IntKind.i64.wrap ((2 : Int) + x19))))] w13.drew w21 ∧ 
    K (.int .i64 0) w21)
theorem arena_Arena_Drop.eq (a_ : Option Addr) (at_ : Int) (w : World) (K : Value → World → Prop) : wpF Try.prog Try.f37 .leaf [.pointer a_, .int .i64 at_] w K = arena_Arena_Drop.w a_ at_ w K := by kernel_rfl
theorem arena_Arena_Drop.ok : fnOk Try.prog Try.f37 2 = true := by kernel_rfl
theorem arena_Arena_Drop.calls {a_ : Option Addr} {at_ : Int} {w : World} {R : Ending → World → Prop} (h : arena_Arena_Drop.w a_ at_ w fun v w' => R (.returned v) w') : Calls Try.prog 37 #[.pointer a_, .int .i64 at_] w R :=
  calls_of mixed Try.func37 arena_Arena_Drop.ok rfl (fun K => arena_Arena_Drop.eq a_ at_ w K) h

/-! ### (*fathom/arena.Arena).Swap: function 38 (named slots 10) -/
def arena_Arena_Swap.w (a_ : Option Addr) (at_ : Int) (i_ : Int) (j_ : Int) (w : World) (K : Value → World → Prop) : Prop :=
  Calls Try.prog 67 #[.pointer a_, .int .i64 at_] w fun e w1 => ∃ r2 : Bool, e = .returned (.bool r2) ∧ 
  cnd (!r2)
  (K (.int .i64 4) w1)
  (Calls Try.prog 68 #[.pointer a_, .int .i64 at_] w1 fun e w3 => ∃ r4_p : Option Addr, ∃ r4_n : Nat, ∃ r4_c : Nat, e = .returned (.slice r4_p r4_n r4_c) ∧ 
    cnd (decide (i_ < (0 : Int)))
    (K (.int .i64 1) w3)
    (cnd (decide (j_ < (0 : Int)))
    (K (.int .i64 1) w3)
    (cnd (decide (i_ ≥ (r4_n : Int)))
    (K (.int .i64 1) w3)
    (cnd (decide (j_ ≥ (r4_n : Int)))
    (K (.int .i64 1) w3)
    (ixK r4_p r4_n j_ 1 fun a5 =>
      ∃ x6 : Int, w3.drew.cell? a5 = some (.int .i64 x6) ∧ 
      ixK r4_p r4_n i_ 1 fun a7 =>
      ∃ x8 : Int, w3.drew.cell? a7 = some (.int .i64 x8) ∧ 
      ixK r4_p r4_n i_ 1 fun a9 =>
      ∃ w10 : World, StoreAt a9 0 [.int .i64 x6] w3.drew w10 ∧ 
      ixK r4_p r4_n j_ 1 fun a11 =>
      ∃ w12 : World, StoreAt a11 0 [.int .i64 x8] w10 w12 ∧ 
      K (.int .i64 0) w12)))))
theorem arena_Arena_Swap.eq (a_ : Option Addr) (at_ : Int) (i_ : Int) (j_ : Int) (w : World) (K : Value → World → Prop) : wpF Try.prog Try.f38 .leaf [.pointer a_, .int .i64 at_, .int .i64 i_, .int .i64 j_] w K = arena_Arena_Swap.w a_ at_ i_ j_ w K := by kernel_rfl
theorem arena_Arena_Swap.ok : fnOk Try.prog Try.f38 4 = true := by kernel_rfl
theorem arena_Arena_Swap.calls {a_ : Option Addr} {at_ : Int} {i_ : Int} {j_ : Int} {w : World} {R : Ending → World → Prop} (h : arena_Arena_Swap.w a_ at_ i_ j_ w fun v w' => R (.returned v) w') : Calls Try.prog 38 #[.pointer a_, .int .i64 at_, .int .i64 i_, .int .i64 j_] w R :=
  calls_of mixed Try.func38 arena_Arena_Swap.ok rfl (fun K => arena_Arena_Swap.eq a_ at_ i_ j_ w K) h

/-! ### (*fathom/arena.Arena).Places: function 39 (named slots 5) -/
def arena_Arena_Places.w (a_ : Option Addr) (w : World) (K : Value → World → Prop) : Prop :=
  cnd a_.isNone
  (K (.slice none 0 0) w)
  (∃ I1 : Option Addr → Nat → Nat → Int → World → Nat → Prop, (∃ k2, I1 none 0 0 0 w k2) ∧
    ∀ (l_4_p : Option Addr) (l_4_n : Nat) (l_4_c : Nat) (i_5 : Int) (w6 : World) (k2 : Nat) (_ : Fr), I1 l_4_p l_4_n l_4_c i_5 w6 k2 →
    ∃ a7 : Addr, a_ = some a7 ∧ ∃ x8_p : Option Addr, ∃ x8_n : Nat, ∃ x8_c : Nat, w6.cell? (a7.add 1) = some (.slice x8_p x8_n x8_c) ∧ 
      cnd (decide (i_5 < (x8_n : Int)))
      (∃ a9 : Addr, a_ = some a9 ∧ ∃ x10_p : Option Addr, ∃ x10_n : Nat, ∃ x10_c : Nat, w6.cell? (a9.add 1) = some (.slice x10_p x10_n x10_c) ∧ 
        ixK x10_p x10_n (IntKind.i64.wrap (i_5 + (1 : Int))) 1 fun a11 =>
        ∃ x12 : Int, w6.cell? a11 = some (.int .i64 x12) ∧ 
        cnd (x12 == (1 : Int))
        (∀ (n13 : Nat) (w14 : World), New (.cells #[.int .i64 i_5] 3) w6 n13 w14 → 
          ∃ w15 : World, ∃ r16_p : Option Addr, ∃ r16_n : Nat, ∃ r16_c : Nat, (Builtin.append_ #[49, 49] 49 #[.slice l_4_p l_4_n l_4_c, .slice (some (Addr.mk n13 0 none)) 1 1]).run Try.prog w14 = .ok (.slice r16_p r16_n r16_c) w15 ∧ 
          ∃ a17 : Addr, a_ = some a17 ∧ ∃ x18_p : Option Addr, ∃ x18_n : Nat, ∃ x18_c : Nat, w15.cell? (a17.add 1) = some (.slice x18_p x18_n x18_c) ∧ 
          ixK x18_p x18_n i_5 1 fun a19 =>
          ∃ x20 : Int, w15.cell? a19 = some (.int .i64 x20) ∧ 
          ∃ k3, k3 < k2 ∧ I1 r16_p r16_n r16_c (IntKind.i64.wrap (i_5 + (IntKind.i64.wrap ((2 : Int) + x20)))) w15 k3)
        (∃ a21 : Addr, a_ = some a21 ∧ ∃ x22_p : Option Addr, ∃ x22_n : Nat, ∃ x22_c : Nat, w6.cell? (a21.add 1) = some (.slice x22_p x22_n x22_c) ∧ 
          ixK x22_p x22_n i_5 1 fun a23 =>
          ∃ x24 : Int, w6.cell? a23 = some (.int .i64 x24) ∧ 
          ∃ k3, k3 < k2 ∧ I1 l_4_p l_4_n l_4_c (IntKind.i64.wrap (i_5 + (IntKind.i64.wrap ((2 : Int) + x24)))) w6 k3))
      (K (.slice l_4_p l_4_n l_4_c) w6))
theorem arena_Arena_Places.eq (a_ : Option Addr) (w : World) (K : Value → World → Prop) : wpF Try.prog Try.f39 (.two .leaf (.two .leaf (.two .leaf (.two (.two .leaf (.one (.loop [(3, 49), (4, 3)] .leaf))) .leaf)))) [.pointer a_] w K = arena_Arena_Places.w a_ w K := by kernel_rfl
theorem arena_Arena_Places.ok : fnOk Try.prog Try.f39 1 = true := by kernel_rfl
theorem arena_Arena_Places.calls {a_ : Option Addr} {w : World} {R : Ending → World → Prop} (h : arena_Arena_Places.w a_ w fun v w' => R (.returned v) w') : Calls Try.prog 39 #[.pointer a_] w R :=
  calls_of mixed Try.func39 arena_Arena_Places.ok rfl (fun K => arena_Arena_Places.eq a_ w K) h

/-! ### (*fathom/arena.Arena).Words: function 40 (named slots 3) -/
def arena_Arena_Words.w (a_ : Option Addr) (w : World) (K : Value → World → Prop) : Prop :=
  cnd a_.isNone
  (K (.int .i64 0) w)
  (∃ a1 : Addr, a_ = some a1 ∧ ∃ x2_p : Option Addr, ∃ x2_n : Nat, ∃ x2_c : Nat, w.cell? (a1.add 1) = some (.slice x2_p x2_n x2_c) ∧ 
    K (.int .i64 (x2_n : Int)) w)
theorem arena_Arena_Words.eq (a_ : Option Addr) (w : World) (K : Value → World → Prop) : wpF Try.prog Try.f40 .leaf [.pointer a_] w K = arena_Arena_Words.w a_ w K := by kernel_rfl
theorem arena_Arena_Words.ok : fnOk Try.prog Try.f40 1 = true := by kernel_rfl
theorem arena_Arena_Words.calls {a_ : Option Addr} {w : World} {R : Ending → World → Prop} (h : arena_Arena_Words.w a_ w fun v w' => R (.returned v) w') : Calls Try.prog 40 #[.pointer a_] w R :=
  calls_of mixed Try.func40 arena_Arena_Words.ok rfl (fun K => arena_Arena_Words.eq a_ w K) h

/-! ### fathom/arena.New: function 59 (named slots 1) -/
def arena_New.w (w : World) (K : Value → World → Prop) : Prop :=
  ∀ (n1 : Nat) (w2 : World), New (.map #[] 0) w n1 w2 → 
  ∀ (n3 : Nat) (w4 : World), New (.cells #[.bool true, .slice none 0 0, .map (some n1), .int .i64 0, .int .i64 0] 64) w2 n3 w4 → 
  K (.pointer (some (Addr.mk n3 0 none))) w4
theorem arena_New.eq (w : World) (K : Value → World → Prop) : wpF Try.prog Try.f59 .leaf [] w K = arena_New.w  w K := by kernel_rfl
theorem arena_New.ok : fnOk Try.prog Try.f59 0 = true := by kernel_rfl
theorem arena_New.calls {w : World} {R : Ending → World → Prop} (h : arena_New.w  w fun v w' => R (.returned v) w') : Calls Try.prog 59 #[] w R :=
  calls_of mixed Try.func59 arena_New.ok rfl (fun K => arena_New.eq  w K) h

/-! ### fathom/fathomref02.Add: function 60 (named slots 7) -/
def fathomref02_Add.w (a_0_p : Option Addr) (a_0_n : Nat) (a_0_c : Nat) (c__p : Option Addr) (c__n : Nat) (c__c : Nat) (w : World) (K : Value → World → Prop) : Prop :=
  ∀ (n1 : Nat) (w2 : World), New (.cells #[.slice a_0_p a_0_n a_0_c] 45) w n1 w2 → 
  ∀ (n3 : Nat) (w4 : World), New (.cells #[.slice none 0 0] 45) w2 n3 w4 → 
  Calls Try.prog 82 #[.slice c__p c__n c__c] w4 fun e w5 => ∃ r6 : Bool, e = .returned (.bool r6) ∧ 
  cnd (!r6)
  (∃ x7_p : Option Addr, ∃ x7_n : Nat, ∃ x7_c : Nat, CellsAt w5 (Addr.mk n1 0 none) 0 [.slice x7_p x7_n x7_c] ∧ 
    ∃ w8 : World, StoreAt (Addr.mk n3 0 none) 0 [.slice x7_p x7_n x7_c] w5 w8 ∧ 
    ∃ x9_p : Option Addr, ∃ x9_n : Nat, ∃ x9_c : Nat, CellsAt w8 (Addr.mk n3 0 none) 0 [.slice x9_p x9_n x9_c] ∧ 
    K (.tuple #[.agg #[.slice x9_p x9_n x9_c], .int .i64 0, .int .i64 1]) w8)
  (∃ x10_p : Option Addr, ∃ x10_n : Nat, ∃ x10_c : Nat, CellsAt w5 (Addr.mk n1 0 none) 0 [.slice x10_p x10_n x10_c] ∧ 
    Calls Try.prog 65 #[.agg #[.slice x10_p x10_n x10_c]] w5 fun e w11 => ∃ r12 : Int, e = .returned (.int .i64 r12) ∧ 
    cnd (decide ((IntKind.i64.wrap ((IntKind.i64.wrap (r12 + (2 : Int))) + (c__n : Int))) > (4194304 : Int)))
    (∃ x13_p : Option Addr, ∃ x13_n : Nat, ∃ x13_c : Nat, CellsAt w11 (Addr.mk n1 0 none) 0 [.slice x13_p x13_n x13_c] ∧ 
      ∃ w14 : World, StoreAt (Addr.mk n3 0 none) 0 [.slice x13_p x13_n x13_c] w11 w14 ∧ 
      ∃ x15_p : Option Addr, ∃ x15_n : Nat, ∃ x15_c : Nat, CellsAt w14 (Addr.mk n3 0 none) 0 [.slice x15_p x15_n x15_c] ∧ 
      K (.tuple #[.agg #[.slice x15_p x15_n x15_c], .int .i64 0, .int .i64 5]) w14)
    ((∀ (n16 : Nat) (w17 : World), New (.cells #[] 105) w11.drew n16 w17 → 
      (∃ x18_p : Option Addr, ∃ x18_n : Nat, ∃ x18_c : Nat, w17.cell? ((Addr.mk n1 0 none).add 0) = some (.slice x18_p x18_n x18_c) ∧ 
      (∃ w19 : World, ∃ r20_p : Option Addr, ∃ r20_n : Nat, ∃ r20_c : Nat, (Builtin.append_ #[43, 43] 43 #[.slice (some (Addr.mk n16 0 none)) 0 0, .slice x18_p x18_n x18_c]).run Try.prog w17 = .ok (.slice r20_p r20_n r20_c) w19 ∧ 
      (∀ (n21 : Nat) (w22 : World), New (.cells #[.slice c__p c__n c__c, .bool false] 105) w19 n21 w22 → 
      (∃ w23 : World, ∃ r24_p : Option Addr, ∃ r24_n : Nat, ∃ r24_c : Nat, (Builtin.append_ #[43, 43] 43 #[.slice r20_p r20_n r20_c, .slice (some (Addr.mk n21 0 none)) 1 1]).run Try.prog w22 = .ok (.slice r24_p r24_n r24_c) w23 ∧ 
      ∃ x25_p : Option Addr, ∃ x25_n : Nat, ∃ x25_c : Nat, CellsAt w23 (Addr.mk n1 0 none) 0 [.slice x25_p x25_n x25_c] ∧ 
      Calls Try.prog 65 #[.agg #[.slice x25_p x25_n x25_c]] w23 fun e w26 => ∃ r27 : Int, e = .returned (.int .i64 r27) ∧ 
      ∃ w28 : World, StoreAt (Addr.mk n3 0 none) 0 [.slice r24_p r24_n r24_c] w26 w28 ∧ 
      ∃ x29_p : Option Addr, ∃ x29_n : Nat, ∃ x29_c : Nat, CellsAt w28 (Addr.mk n3 0 none) 0 [.slice x29_p x29_n x29_c] ∧ 
      K (.tuple #[.agg #[.slice x29_p x29_n x29_c], .int .i64 r27, .int .i64 0]) w28) ∧
    (∃ x30_p : Option Addr, ∃ x30_n : Nat, ∃ x30_c : Nat, CellsAt w22 (Addr.mk n1 0 none) 0 [.slice x30_p x30_n x30_c] ∧ 
      ∃ w31 : World, ∃ r32_p : Option Addr, ∃ r32_n : Nat, ∃ r32_c : Nat, (Builtin.append_ #[43, 43] 43 #[.slice r20_p r20_n r20_c, .slice (some (Addr.mk n21 0 none)) 1 1]).run Try.prog w22 = .ok (.slice r32_p r32_n r32_c) w31 ∧ 
      Calls Try.prog 65 #[.agg #[.slice x30_p x30_n x30_c]] w31 fun e w33 => ∃ r34 : Int, e = .returned (.int .i64 r34) ∧ 
      ∃ w35 : World, StoreAt (Addr.mk n3 0 none) 0 [.slice r32_p r32_n r32_c] w33 w35 ∧ 
      ∃ x36_p : Option Addr, ∃ x36_n : Nat, ∃ x36_c : Nat, CellsAt w35 (Addr.mk n3 0 none) 0 [.slice x36_p x36_n x36_c] ∧ 
      K (.tuple #[.agg #[.slice x36_p x36_n x36_c], .int .i64 r34, .int .i64 0]) w35)) ∧
    (∃ x37_p : Option Addr, ∃ x37_n : Nat, ∃ x37_c : Nat, CellsAt w19 (Addr.mk n1 0 none) 0 [.slice x37_p x37_n x37_c] ∧ 
      ∀ (n38 : Nat) (w39 : World), New (.cells #[.slice c__p c__n c__c, .bool false] 105) w19 n38 w39 → 
      ∃ w40 : World, ∃ r41_p : Option Addr, ∃ r41_n : Nat, ∃ r41_c : Nat, (Builtin.append_ #[43, 43] 43 #[.slice r20_p r20_n r20_c, .slice (some (Addr.mk n38 0 none)) 1 1]).run Try.prog w39 = .ok (.slice r41_p r41_n r41_c) w40 ∧ 
      Calls Try.prog 65 #[.agg #[.slice x37_p x37_n x37_c]] w40 fun e w42 => ∃ r43 : Int, e = .returned (.int .i64 r43) ∧ 
      ∃ w44 : World, StoreAt (Addr.mk n3 0 none) 0 [.slice r41_p r41_n r41_c] w42 w44 ∧ 
      ∃ x45_p : Option Addr, ∃ x45_n : Nat, ∃ x45_c : Nat, CellsAt w44 (Addr.mk n3 0 none) 0 [.slice x45_p x45_n x45_c] ∧ 
      K (.tuple #[.agg #[.slice x45_p x45_n x45_c], .int .i64 r43, .int .i64 0]) w44)) ∧
    (∀ (n46 : Nat) (w47 : World), New (.cells #[.slice c__p c__n c__c, .bool false] 105) w17 n46 w47 → 
      (∃ w48 : World, ∃ r49_p : Option Addr, ∃ r49_n : Nat, ∃ r49_c : Nat, (Builtin.append_ #[43, 43] 43 #[.slice (some (Addr.mk n16 0 none)) 0 0, .slice x18_p x18_n x18_c]).run Try.prog w47 = .ok (.slice r49_p r49_n r49_c) w48 ∧ 
      (∃ w50 : World, ∃ r51_p : Option Addr, ∃ r51_n : Nat, ∃ r51_c : Nat, (Builtin.append_ #[43, 43] 43 #[.slice r49_p r49_n r49_c, .slice (some (Addr.mk n46 0 none)) 1 1]).run Try.prog w48 = .ok (.slice r51_p r51_n r51_c) w50 ∧ 
      ∃ x52_p : Option Addr, ∃ x52_n : Nat, ∃ x52_c : Nat, CellsAt w50 (Addr.mk n1 0 none) 0 [.slice x52_p x52_n x52_c] ∧ 
      Calls Try.prog 65 #[.agg #[.slice x52_p x52_n x52_c]] w50 fun e w53 => ∃ r54 : Int, e = .returned (.int .i64 r54) ∧ 
      ∃ w55 : World, StoreAt (Addr.mk n3 0 none) 0 [.slice r51_p r51_n r51_c] w53 w55 ∧ 
      ∃ x56_p : Option Addr, ∃ x56_n : Nat, ∃ x56_c : Nat, CellsAt w55 (Addr.mk n3 0 none) 0 [.slice x56_p x56_n x56_c] ∧ 
      K (.tuple #[.agg #[.slice x56_p x56_n x56_c], .int .i64 r54, .int .i64 0]) w55) ∧
    (∃ x57_p : Option Addr, ∃ x57_n : Nat, ∃ x57_c : Nat, CellsAt w48 (Addr.mk n1 0 none) 0 [.slice x57_p x57_n x57_c] ∧ 
      ∃ w58 : World, ∃ r59_p : Option Addr, ∃ r59_n : Nat, ∃ r59_c : Nat, (Builtin.append_ #[43, 43] 43 #[.slice r49_p r49_n r49_c, .slice (some (Addr.mk n46 0 none)) 1 1]).run Try.prog w48 = .ok (.slice r59_p r59_n r59_c) w58 ∧ 
      Calls Try.prog 65 #[.agg #[.slice x57_p x57_n x57_c]] w58 fun e w60 => ∃ r61 : Int, e = .returned (.int .i64 r61) ∧ 
      ∃ w62 : World, StoreAt (Addr.mk n3 0 none) 0 [.slice r59_p r59_n r59_c] w60 w62 ∧ 
      ∃ x63_p : Option Addr, ∃ x63_n : Nat, ∃ x63_c : Nat, CellsAt w62 (Addr.mk n3 0 none) 0 [.slice x63_p x63_n x63_c] ∧ 
      K (.tuple #[.agg #[.slice x63_p x63_n x63_c], .int .i64 r61, .int .i64 0]) w62)) ∧
    (∃ x64_p : Option Addr, ∃ x64_n : Nat, ∃ x64_c : Nat, CellsAt w47 (Addr.mk n1 0 none) 0 [.slice x64_p x64_n x64_c] ∧ 
      ∃ w65 : World, ∃ r66_p : Option Addr, ∃ r66_n : Nat, ∃ r66_c : Nat, (Builtin.append_ #[43, 43] 43 #[.slice (some (Addr.mk n16 0 none)) 0 0, .slice x18_p x18_n x18_c]).run Try.prog w47 = .ok (.slice r66_p r66_n r66_c) w65 ∧ 
      ∃ w67 : World, ∃ r68_p : Option Addr, ∃ r68_n : Nat, ∃ r68_c : Nat, (Builtin.append_ #[43, 43] 43 #[.slice r66_p r66_n r66_c, .slice (some (Addr.mk n46 0 none)) 1 1]).run Try.prog w65 = .ok (.slice r68_p r68_n r68_c) w67 ∧ 
      Calls Try.prog 65 #[.agg #[.slice x64_p x64_n x64_c]] w67 fun e w69 => ∃ r70 : Int, e = .returned (.int .i64 r70) ∧ 
      ∃ w71 : World, StoreAt (Addr.mk n3 0 none) 0 [.slice r68_p r68_n r68_c] w69 w71 ∧ 
      ∃ x72_p : Option Addr, ∃ x72_n : Nat, ∃ x72_c : Nat, CellsAt w71 (Addr.mk n3 0 none) 0 [.slice x72_p x72_n x72_c] ∧ 
      K (.tuple #[.agg #[.slice x72_p x72_n x72_c], .int .i64 r70, .int .i64 0]) w71)) ∧
    (∃ x73_p : Option Addr, ∃ x73_n : Nat, ∃ x73_c : Nat, CellsAt w17 (Addr.mk n1 0 none) 0 [.slice x73_p x73_n x73_c] ∧ 
      (∃ w74 : World, ∃ r75_p : Option Addr, ∃ r75_n : Nat, ∃ r75_c : Nat, (Builtin.append_ #[43, 43] 43 #[.slice (some (Addr.mk n16 0 none)) 0 0, .slice x18_p x18_n x18_c]).run Try.prog w17 = .ok (.slice r75_p r75_n r75_c) w74 ∧ 
      ∀ (n76 : Nat) (w77 : World), New (.cells #[.slice c__p c__n c__c, .bool false] 105) w74 n76 w77 → 
      ∃ w78 : World, ∃ r79_p : Option Addr, ∃ r79_n : Nat, ∃ r79_c : Nat, (Builtin.append_ #[43, 43] 43 #[.slice r75_p r75_n r75_c, .slice (some (Addr.mk n76 0 none)) 1 1]).run Try.prog w77 = .ok (.slice r79_p r79_n r79_c) w78 ∧ 
      Calls Try.prog 65 #[.agg #[.slice x73_p x73_n x73_c]] w78 fun e w80 => ∃ r81 : Int, e = .returned (.int .i64 r81) ∧ 
      ∃ w82 : World, StoreAt (Addr.mk n3 0 none) 0 [.slice r79_p r79_n r79_c] w80 w82 ∧ 
      ∃ x83_p : Option Addr, ∃ x83_n : Nat, ∃ x83_c : Nat, CellsAt w82 (Addr.mk n3 0 none) 0 [.slice x83_p x83_n x83_c] ∧ 
      K (.tuple #[.agg #[.slice x83_p x83_n x83_c], .int .i64 r81, .int .i64 0]) w82) ∧
    (∀ (n84 : Nat) (w85 : World), New (.cells #[.slice c__p c__n c__c, .bool false] 105) w17 n84 w85 → 
      ∃ w86 : World, ∃ r87_p : Option Addr, ∃ r87_n : Nat, ∃ r87_c : Nat, (Builtin.append_ #[43, 43] 43 #[.slice (some (Addr.mk n16 0 none)) 0 0, .slice x18_p x18_n x18_c]).run Try.prog w85 = .ok (.slice r87_p r87_n r87_c) w86 ∧ 
      ∃ w88 : World, ∃ r89_p : Option Addr, ∃ r89_n : Nat, ∃ r89_c : Nat, (Builtin.append_ #[43, 43] 43 #[.slice r87_p r87_n r87_c, .slice (some (Addr.mk n84 0 none)) 1 1]).run Try.prog w86 = .ok (.slice r89_p r89_n r89_c) w88 ∧ 
      Calls Try.prog 65 #[.agg #[.slice x73_p x73_n x73_c]] w88 fun e w90 => ∃ r91 : Int, e = .returned (.int .i64 r91) ∧ 
      ∃ w92 : World, StoreAt (Addr.mk n3 0 none) 0 [.slice r89_p r89_n r89_c] w90 w92 ∧ 
      ∃ x93_p : Option Addr, ∃ x93_n : Nat, ∃ x93_c : Nat, CellsAt w92 (Addr.mk n3 0 none) 0 [.slice x93_p x93_n x93_c] ∧ 
      K (.tuple #[.agg #[.slice x93_p x93_n x93_c], .int .i64 r91, .int .i64 0]) w92))) ∧
    (∀ (n94 : Nat) (w95 : World), New (.cells #[.slice c__p c__n c__c, .bool false] 105) w17 n94 w95 → 
      ∃ x96_p : Option Addr, ∃ x96_n : Nat, ∃ x96_c : Nat, w95.cell? ((Addr.mk n1 0 none).add 0) = some (.slice x96_p x96_n x96_c) ∧ 
      (∃ w97 : World, ∃ r98_p : Option Addr, ∃ r98_n : Nat, ∃ r98_c : Nat, (Builtin.append_ #[43, 43] 43 #[.slice (some (Addr.mk n16 0 none)) 0 0, .slice x96_p x96_n x96_c]).run Try.prog w95 = .ok (.slice r98_p r98_n r98_c) w97 ∧ 
      (∃ w99 : World, ∃ r100_p : Option Addr, ∃ r100_n : Nat, ∃ r100_c : Nat, (Builtin.append_ #[43, 43] 43 #[.slice r98_p r98_n r98_c, .slice (some (Addr.mk n94 0 none)) 1 1]).run Try.prog w97 = .ok (.slice r100_p r100_n r100_c) w99 ∧ 
      ∃ x101_p : Option Addr, ∃ x101_n : Nat, ∃ x101_c : Nat, CellsAt w99 (Addr.mk n1 0 none) 0 [.slice x101_p x101_n x101_c] ∧ 
      Calls Try.prog 65 #[.agg #[.slice x101_p x101_n x101_c]] w99 fun e w102 => ∃ r103 : Int, e = .returned (.int .i64 r103) ∧ 
      ∃ w104 : World, StoreAt (Addr.mk n3 0 none) 0 [.slice r100_p r100_n r100_c] w102 w104 ∧ 
      ∃ x105_p : Option Addr, ∃ x105_n : Nat, ∃ x105_c : Nat, CellsAt w104 (Addr.mk n3 0 none) 0 [.slice x105_p x105_n x105_c] ∧ 
      K (.tuple #[.agg #[.slice x105_p x105_n x105_c], .int .i64 r103, .int .i64 0]) w104) ∧
    (∃ x106_p : Option Addr, ∃ x106_n : Nat, ∃ x106_c : Nat, CellsAt w97 (Addr.mk n1 0 none) 0 [.slice x106_p x106_n x106_c] ∧ 
      ∃ w107 : World, ∃ r108_p : Option Addr, ∃ r108_n : Nat, ∃ r108_c : Nat, (Builtin.append_ #[43, 43] 43 #[.slice r98_p r98_n r98_c, .slice (some (Addr.mk n94 0 none)) 1 1]).run Try.prog w97 = .ok (.slice r108_p r108_n r108_c) w107 ∧ 
      Calls Try.prog 65 #[.agg #[.slice x106_p x106_n x106_c]] w107 fun e w109 => ∃ r110 : Int, e = .returned (.int .i64 r110) ∧ 
      ∃ w111 : World, StoreAt (Addr.mk n3 0 none) 0 [.slice r108_p r108_n r108_c] w109 w111 ∧ 
      ∃ x112_p : Option Addr, ∃ x112_n : Nat, ∃ x112_c : Nat, CellsAt w111 (Addr.mk n3 0 none) 0 [.slice x112_p x112_n x112_c] ∧ 
      K (.tuple #[.agg #[.slice x112_p x112_n x112_c], .int .i64 r110, .int .i64 0]) w111)) ∧
    (∃ x113_p : Option Addr, ∃ x113_n : Nat, ∃ x113_c : Nat, CellsAt w95 (Addr.mk n1 0 none) 0 [.slice x113_p x113_n x113_c] ∧ 
      ∃ w114 : World, ∃ r115_p : Option Addr, ∃ r115_n : Nat, ∃ r115_c : Nat, (Builtin.append_ #[43, 43] 43 #[.slice (some (Addr.mk n16 0 none)) 0 0, .slice x96_p x96_n x96_c]).run Try.prog w95 = .ok (.slice r115_p r115_n r115_c) w114 ∧ 
      ∃ w116 : World, ∃ r117_p : Option Addr, ∃ r117_n : Nat, ∃ r117_c : Nat, (Builtin.append_ #[43, 43] 43 #[.slice r115_p r115_n r115_c, .slice (some (Addr.mk n94 0 none)) 1 1]).run Try.prog w114 = .ok (.slice r117_p r117_n r117_c) w116 ∧ 
      Calls Try.prog 65 #[.agg #[.slice x113_p x113_n x113_c]] w116 fun e w118 => ∃ r119 : Int, e = .returned (.int .i64 r119) ∧ 
      ∃ w120 : World, StoreAt (Addr.mk n3 0 none) 0 [.slice r117_p r117_n r117_c] w118 w120 ∧ 
      ∃ x121_p : Option Addr, ∃ x121_n : Nat, ∃ x121_c : Nat, CellsAt w120 (Addr.mk n3 0 none) 0 [.slice x121_p x121_n x121_c] ∧ 
      K (.tuple #[.agg #[.slice x121_p x121_n x121_c], .int .i64 r119, .int .i64 0]) w120)) ∧
    (∃ x122_p : Option Addr, ∃ x122_n : Nat, ∃ x122_c : Nat, CellsAt w17 (Addr.mk n1 0 none) 0 [.slice x122_p x122_n x122_c] ∧ 
      (∃ x123_p : Option Addr, ∃ x123_n : Nat, ∃ x123_c : Nat, w17.cell? ((Addr.mk n1 0 none).add 0) = some (.slice x123_p x123_n x123_c) ∧ 
      (∃ w124 : World, ∃ r125_p : Option Addr, ∃ r125_n : Nat, ∃ r125_c : Nat, (Builtin.append_ #[43, 43] 43 #[.slice (some (Addr.mk n16 0 none)) 0 0, .slice x123_p x123_n x123_c]).run Try.prog w17 = .ok (.slice r125_p r125_n r125_c) w124 ∧ 
      ∀ (n126 : Nat) (w127 : World), New (.cells #[.slice c__p c__n c__c, .bool false] 105) w124 n126 w127 → 
      ∃ w128 : World, ∃ r129_p : Option Addr, ∃ r129_n : Nat, ∃ r129_c : Nat, (Builtin.append_ #[43, 43] 43 #[.slice r125_p r125_n r125_c, .slice (some (Addr.mk n126 0 none)) 1 1]).run Try.prog w127 = .ok (.slice r129_p r129_n r129_c) w128 ∧ 
      Calls Try.prog 65 #[.agg #[.slice x122_p x122_n x122_c]] w128 fun e w130 => ∃ r131 : Int, e = .returned (.int .i64 r131) ∧ 
      ∃ w132 : World, StoreAt (Addr.mk n3 0 none) 0 [.slice r129_p r129_n r129_c] w130 w132 ∧ 
      ∃ x133_p : Option Addr, ∃ x133_n : Nat, ∃ x133_c : Nat, CellsAt w132 (Addr.mk n3 0 none) 0 [.slice x133_p x133_n x133_c] ∧ 
      K (.tuple #[.agg #[.slice x133_p x133_n x133_c], .int .i64 r131, .int .i64 0]) w132) ∧
    (∀ (n134 : Nat) (w135 : World), New (.cells #[.slice c__p c__n c__c, .bool false] 105) w17 n134 w135 → 
      ∃ w136 : World, ∃ r137_p : Option Addr, ∃ r137_n : Nat, ∃ r137_c : Nat, (Builtin.append_ #[43, 43] 43 #[.slice (some (Addr.mk n16 0 none)) 0 0, .slice x123_p x123_n x123_c]).run Try.prog w135 = .ok (.slice r137_p r137_n r137_c) w136 ∧ 
      ∃ w138 : World, ∃ r139_p : Option Addr, ∃ r139_n : Nat, ∃ r139_c : Nat, (Builtin.append_ #[43, 43] 43 #[.slice r137_p r137_n r137_c, .slice (some (Addr.mk n134 0 none)) 1 1]).run Try.prog w136 = .ok (.slice r139_p r139_n r139_c) w138 ∧ 
      Calls Try.prog 65 #[.agg #[.slice x122_p x122_n x122_c]] w138 fun e w140 => ∃ r141 : Int, e = .returned (.int .i64 r141) ∧ 
      ∃ w142 : World, StoreAt (Addr.mk n3 0 none) 0 [.slice r139_p r139_n r139_c] w140 w142 ∧ 
      ∃ x143_p : Option Addr, ∃ x143_n : Nat, ∃ x143_c : Nat, CellsAt w142 (Addr.mk n3 0 none) 0 [.slice x143_p x143_n x143_c] ∧ 
      K (.tuple #[.agg #[.slice x143_p x143_n x143_c], .int .i64 r141, .int .i64 0]) w142)) ∧
    (∀ (n144 : Nat) (w145 : World), New (.cells #[.slice c__p c__n c__c, .bool false] 105) w17 n144 w145 → 
      ∃ x146_p : Option Addr, ∃ x146_n : Nat, ∃ x146_c : Nat, w145.cell? ((Addr.mk n1 0 none).add 0) = some (.slice x146_p x146_n x146_c) ∧ 
      ∃ w147 : World, ∃ r148_p : Option Addr, ∃ r148_n : Nat, ∃ r148_c : Nat, (Builtin.append_ #[43, 43] 43 #[.slice (some (Addr.mk n16 0 none)) 0 0, .slice x146_p x146_n x146_c]).run Try.prog w145 = .ok (.slice r148_p r148_n r148_c) w147 ∧ 
      ∃ w149 : World, ∃ r150_p : Option Addr, ∃ r150_n : Nat, ∃ r150_c : Nat, (Builtin.append_ #[43, 43] 43 #[.slice r148_p r148_n r148_c, .slice (some (Addr.mk n144 0 none)) 1 1]).run Try.prog w147 = .ok (.slice r150_p r150_n r150_c) w149 ∧ 
      Calls Try.prog 65 #[.agg #[.slice x122_p x122_n x122_c]] w149 fun e w151 => ∃ r152 : Int, e = .returned (.int .i64 r152) ∧ 
      ∃ w153 : World, StoreAt (Addr.mk n3 0 none) 0 [.slice r150_p r150_n r150_c] w151 w153 ∧ 
      ∃ x154_p : Option Addr, ∃ x154_n : Nat, ∃ x154_c : Nat, CellsAt w153 (Addr.mk n3 0 none) 0 [.slice x154_p x154_n x154_c] ∧ 
      K (.tuple #[.agg #[.slice x154_p x154_n x154_c], .int .i64 r152, .int .i64 0]) w153))) ∧
    (∃ x155_p : Option Addr, ∃ x155_n : Nat, ∃ x155_c : Nat, w11.drew.cell? ((Addr.mk n1 0 none).add 0) = some (.slice x155_p x155_n x155_c) ∧ 
      (∀ (n156 : Nat) (w157 : World), New (.cells #[] 105) w11.drew n156 w157 → 
      (∃ w158 : World, ∃ r159_p : Option Addr, ∃ r159_n : Nat, ∃ r159_c : Nat, (Builtin.append_ #[43, 43] 43 #[.slice (some (Addr.mk n156 0 none)) 0 0, .slice x155_p x155_n x155_c]).run Try.prog w157 = .ok (.slice r159_p r159_n r159_c) w158 ∧ 
      (∀ (n160 : Nat) (w161 : World), New (.cells #[.slice c__p c__n c__c, .bool false] 105) w158 n160 w161 → 
      (∃ w162 : World, ∃ r163_p : Option Addr, ∃ r163_n : Nat, ∃ r163_c : Nat, (Builtin.append_ #[43, 43] 43 #[.slice r159_p r159_n r159_c, .slice (some (Addr.mk n160 0 none)) 1 1]).run Try.prog w161 = .ok (.slice r163_p r163_n r163_c) w162 ∧ 
      ∃ x164_p : Option Addr, ∃ x164_n : Nat, ∃ x164_c : Nat, CellsAt w162 (Addr.mk n1 0 none) 0 [.slice x164_p x164_n x164_c] ∧ 
      Calls Try.prog 65 #[.agg #[.slice x164_p x164_n x164_c]] w162 fun e w165 => ∃ r166 : Int, e = .returned (.int .i64 r166) ∧ 
      ∃ w167 : World, StoreAt (Addr.mk n3 0 none) 0 [.slice r163_p r163_n r163_c] w165 w167 ∧ 
      ∃ x168_p : Option Addr, ∃ x168_n : Nat, ∃ x168_c : Nat, CellsAt w167 (Addr.mk n3 0 none) 0 [.slice x168_p x168_n x168_c] ∧ 
      K (.tuple #[.agg #[.slice x168_p x168_n x168_c], .int .i64 r166, .int .i64 0]) w167) ∧
    (∃ x169_p : Option Addr, ∃ x169_n : Nat, ∃ x169_c : Nat, CellsAt w161 (Addr.mk n1 0 none) 0 [.slice x169_p x169_n x169_c] ∧ 
      ∃ w170 : World, ∃ r171_p : Option Addr, ∃ r171_n : Nat, ∃ r171_c : Nat, (Builtin.append_ #[43, 43] 43 #[.slice r159_p r159_n r159_c, .slice (some (Addr.mk n160 0 none)) 1 1]).run Try.prog w161 = .ok (.slice r171_p r171_n r171_c) w170 ∧ 
      Calls Try.prog 65 #[.agg #[.slice x169_p x169_n x169_c]] w170 fun e w172 => ∃ r173 : Int, e = .returned (.int .i64 r173) ∧ 
      ∃ w174 : World, StoreAt (Addr.mk n3 0 none) 0 [.slice r171_p r171_n r171_c] w172 w174 ∧ 
      ∃ x175_p : Option Addr, ∃ x175_n : Nat, ∃ x175_c : Nat, CellsAt w174 (Addr.mk n3 0 none) 0 [.slice x175_p x175_n x175_c] ∧ 
      K (.tuple #[.agg #[.slice x175_p x175_n x175_c], .int .i64 r173, .int .i64 0]) w174)) ∧
    (∃ x176_p : Option Addr, ∃ x176_n : Nat, ∃ x176_c : Nat, CellsAt w158 (Addr.mk n1 0 none) 0 [.slice x176_p x176_n x176_c] ∧ 
      ∀ (n177 : Nat) (w178 : World), New (.cells #[.slice c__p c__n c__c, .bool false] 105) w158 n177 w178 → 
      ∃ w179 : World, ∃ r180_p : Option Addr, ∃ r180_n : Nat, ∃ r180_c : Nat, (Builtin.append_ #[43, 43] 43 #[.slice r159_p r159_n r159_c, .slice (some (Addr.mk n177 0 none)) 1 1]).run Try.prog w178 = .ok (.slice r180_p r180_n r180_c) w179 ∧ 
      Calls Try.prog 65 #[.agg #[.slice x176_p x176_n x176_c]] w179 fun e w181 => ∃ r182 : Int, e = .returned (.int .i64 r182) ∧ 
      ∃ w183 : World, StoreAt (Addr.mk n3 0 none) 0 [.slice r180_p r180_n r180_c] w181 w183 ∧ 
      ∃ x184_p : Option Addr, ∃ x184_n : Nat, ∃ x184_c : Nat, CellsAt w183 (Addr.mk n3 0 none) 0 [.slice x184_p x184_n x184_c] ∧ 
      K (.tuple #[.agg #[.slice x184_p x184_n x184_c], .int .i64 r182, .int .i64 0]) w183)) ∧
    (∀ (n185 : Nat) (w186 : World), New (.cells #[.slice c__p c__n c__c, .bool false] 105) w157 n185 w186 → 
      (∃ w187 : World, ∃ r188_p : Option Addr, ∃ r188_n : Nat, ∃ r188_c : Nat, (Builtin.append_ #[43, 43] 43 #[.slice (some (Addr.mk n156 0 none)) 0 0, .slice x155_p x155_n x155_c]).run Try.prog w186 = .ok (.slice r188_p r188_n r188_c) w187 ∧ 
      (∃ w189 : World, ∃ r190_p : Option Addr, ∃ r190_n : Nat, ∃ r190_c : Nat, (Builtin.append_ #[43, 43] 43 #[.slice r188_p r188_n r188_c, .slice (some (Addr.mk n185 0 none)) 1 1]).run Try.prog w187 = .ok (.slice r190_p r190_n r190_c) w189 ∧ 
      ∃ x191_p : Option Addr, ∃ x191_n : Nat, ∃ x191_c : Nat, CellsAt w189 (Addr.mk n1 0 none) 0 [.slice x191_p x191_n x191_c] ∧ 
      Calls Try.prog 65 #[.agg #[.slice x191_p x191_n x191_c]] w189 fun e w192 => ∃ r193 : Int, e = .returned (.int .i64 r193) ∧ 
      ∃ w194 : World, StoreAt (Addr.mk n3 0 none) 0 [.slice r190_p r190_n r190_c] w192 w194 ∧ 
      ∃ x195_p : Option Addr, ∃ x195_n : Nat, ∃ x195_c : Nat, CellsAt w194 (Addr.mk n3 0 none) 0 [.slice x195_p x195_n x195_c] ∧ 
      K (.tuple #[.agg #[.slice x195_p x195_n x195_c], .int .i64 r193, .int .i64 0]) w194) ∧
    (∃ x196_p : Option Addr, ∃ x196_n : Nat, ∃ x196_c : Nat, CellsAt w187 (Addr.mk n1 0 none) 0 [.slice x196_p x196_n x196_c] ∧ 
      ∃ w197 : World, ∃ r198_p : Option Addr, ∃ r198_n : Nat, ∃ r198_c : Nat, (Builtin.append_ #[43, 43] 43 #[.slice r188_p r188_n r188_c, .slice (some (Addr.mk n185 0 none)) 1 1]).run Try.prog w187 = .ok (.slice r198_p r198_n r198_c) w197 ∧ 
      Calls Try.prog 65 #[.agg #[.slice x196_p x196_n x196_c]] w197 fun e w199 => ∃ r200 : Int, e = .returned (.int .i64 r200) ∧ 
      ∃ w201 : World, StoreAt (Addr.mk n3 0 none) 0 [.slice r198_p r198_n r198_c] w199 w201 ∧ 
      ∃ x202_p : Option Addr, ∃ x202_n : Nat, ∃ x202_c : Nat, CellsAt w201 (Addr.mk n3 0 none) 0 [.slice x202_p x202_n x202_c] ∧ 
      K (.tuple #[.agg #[.slice x202_p x202_n x202_c], .int .i64 r200, .int .i64 0]) w201)) ∧
    (∃ x203_p : Option Addr, ∃ x203_n : Nat, ∃ x203_c : Nat, CellsAt w186 (Addr.mk n1 0 none) 0 [.slice x203_p x203_n x203_c] ∧ 
      ∃ w204 : World, ∃ r205_p : Option Addr, ∃ r205_n : Nat, ∃ r205_c : Nat, (Builtin.append_ #[43, 43] 43 #[.slice (some (Addr.mk n156 0 none)) 0 0, .slice x155_p x155_n x155_c]).run Try.prog w186 = .ok (.slice r205_p r205_n r205_c) w204 ∧ 
      ∃ w206 : World, ∃ r207_p : Option Addr, ∃ r207_n : Nat, ∃ r207_c : Nat, (Builtin.append_ #[43, 43] 43 #[.slice r205_p r205_n r205_c, .slice (some (Addr.mk n185 0 none)) 1 1]).run Try.prog w204 = .ok (.slice r207_p r207_n r207_c) w206 ∧ 
      Calls Try.prog 65 #[.agg #[.slice x203_p x203_n x203_c]] w206 fun e w208 => ∃ r209 : Int, e = .returned (.int .i64 r209) ∧ 
      ∃ w210 : World, StoreAt (Addr.mk n3 0 none) 0 [.slice r207_p r207_n r207_c] w208 w210 ∧ 
      ∃ x211_p : Option Addr, ∃ x211_n : Nat, ∃ x211_c : Nat, CellsAt w210 (Addr.mk n3 0 none) 0 [.slice x211_p x211_n x211_c] ∧ 
      K (.tuple #[.agg #[.slice x211_p x211_n x211_c], .int .i64 r209, .int .i64 0]) w210)) ∧
    (∃ x212_p : Option Addr, ∃ x212_n : Nat, ∃ x212_c : Nat, CellsAt w157 (Addr.mk n1 0 none) 0 [.slice x212_p x212_n x212_c] ∧ 
      (∃ w213 : World, ∃ r214_p : Option Addr, ∃ r214_n : Nat, ∃ r214_c : Nat, (Builtin.append_ #[43, 43] 43 #[.slice (some (Addr.mk n156 0 none)) 0 0, .slice x155_p x155_n x155_c]).run Try.prog w157 = .ok (.slice r214_p r214_n r214_c) w213 ∧ 
      ∀ (n215 : Nat) (w216 : World), New (.cells #[.slice c__p c__n c__c, .bool false] 105) w213 n215 w216 → 
      ∃ w217 : World, ∃ r218_p : Option Addr, ∃ r218_n : Nat, ∃ r218_c : Nat, (Builtin.append_ #[43, 43] 43 #[.slice r214_p r214_n r214_c, .slice (some (Addr.mk n215 0 none)) 1 1]).run Try.prog w216 = .ok (.slice r218_p r218_n r218_c) w217 ∧ 
      Calls Try.prog 65 #[.agg #[.slice x212_p x212_n x212_c]] w217 fun e w219 => ∃ r220 : Int, e = .returned (.int .i64 r220) ∧ 
      ∃ w221 : World, StoreAt (Addr.mk n3 0 none) 0 [.slice r218_p r218_n r218_c] w219 w221 ∧ 
      ∃ x222_p : Option Addr, ∃ x222_n : Nat, ∃ x222_c : Nat, CellsAt w221 (Addr.mk n3 0 none) 0 [.slice x222_p x222_n x222_c] ∧ 
      K (.tuple #[.agg #[.slice x222_p x222_n x222_c], .int .i64 r220, .int .i64 0]) w221) ∧
    (∀ (n223 : Nat) (w224 : World), New (.cells #[.slice c__p c__n c__c, .bool false] 105) w157 n223 w224 → 
      ∃ w225 : World, ∃ r226_p : Option Addr, ∃ r226_n : Nat, ∃ r226_c : Nat, (Builtin.append_ #[43, 43] 43 #[.slice (some (Addr.mk n156 0 none)) 0 0, .slice x155_p x155_n x155_c]).run Try.prog w224 = .ok (.slice r226_p r226_n r226_c) w225 ∧ 
      ∃ w227 : World, ∃ r228_p : Option Addr, ∃ r228_n : Nat, ∃ r228_c : Nat, (Builtin.append_ #[43, 43] 43 #[.slice r226_p r226_n r226_c, .slice (some (Addr.mk n223 0 none)) 1 1]).run Try.prog w225 = .ok (.slice r228_p r228_n r228_c) w227 ∧ 
      Calls Try.prog 65 #[.agg #[.slice x212_p x212_n x212_c]] w227 fun e w229 => ∃ r230 : Int, e = .returned (.int .i64 r230) ∧ 
      ∃ w231 : World, StoreAt (Addr.mk n3 0 none) 0 [.slice r228_p r228_n r228_c] w229 w231 ∧ 
      ∃ x232_p : Option Addr, ∃ x232_n : Nat, ∃ x232_c : Nat, CellsAt w231 (Addr.mk n3 0 none) 0 [.slice x232_p x232_n x232_c] ∧ 
      K (.tuple #[.agg #[.slice x232_p x232_n x232_c], .int .i64 r230, .int .i64 0]) w231))) ∧
    (∀ (n233 : Nat) (w234 : World), New (.cells #[.slice c__p c__n c__c, .bool false] 105) w11.drew n233 w234 → 
      (∀ (n235 : Nat) (w236 : World), New (.cells #[] 105) w234 n235 w236 → 
      (∃ w237 : World, ∃ r238_p : Option Addr, ∃ r238_n : Nat, ∃ r238_c : Nat, (Builtin.append_ #[43, 43] 43 #[.slice (some (Addr.mk n235 0 none)) 0 0, .slice x155_p x155_n x155_c]).run Try.prog w236 = .ok (.slice r238_p r238_n r238_c) w237 ∧ 
      (∃ w239 : World, ∃ r240_p : Option Addr, ∃ r240_n : Nat, ∃ r240_c : Nat, (Builtin.append_ #[43, 43] 43 #[.slice r238_p r238_n r238_c, .slice (some (Addr.mk n233 0 none)) 1 1]).run Try.prog w237 = .ok (.slice r240_p r240_n r240_c) w239 ∧ 
      ∃ x241_p : Option Addr, ∃ x241_n : Nat, ∃ x241_c : Nat, CellsAt w239 (Addr.mk n1 0 none) 0 [.slice x241_p x241_n x241_c] ∧ 
      Calls Try.prog 65 #[.agg #[.slice x241_p x241_n x241_c]] w239 fun e w242 => ∃ r243 : Int, e = .returned (.int .i64 r243) ∧ 
      ∃ w244 : World, StoreAt (Addr.mk n3 0 none) 0 [.slice r240_p r240_n r240_c] w242 w244 ∧ 
      ∃ x245_p : Option Addr, ∃ x245_n : Nat, ∃ x245_c : Nat, CellsAt w244 (Addr.mk n3 0 none) 0 [.slice x245_p x245_n x245_c] ∧ 
      K (.tuple #[.agg #[.slice x245_p x245_n x245_c], .int .i64 r243, .int .i64 0]) w244) ∧
    (∃ x246_p : Option Addr, ∃ x246_n : Nat, ∃ x246_c : Nat, CellsAt w237 (Addr.mk n1 0 none) 0 [.slice x246_p x246_n x246_c] ∧ 
      ∃ w247 : World, ∃ r248_p : Option Addr, ∃ r248_n : Nat, ∃ r248_c : Nat, (Builtin.append_ #[43, 43] 43 #[.slice r238_p r238_n r238_c, .slice (some (Addr.mk n233 0 none)) 1 1]).run Try.prog w237 = .ok (.slice r248_p r248_n r248_c) w247 ∧ 
      Calls Try.prog 65 #[.agg #[.slice x246_p x246_n x246_c]] w247 fun e w249 => ∃ r250 : Int, e = .returned (.int .i64 r250) ∧ 
      ∃ w251 : World, StoreAt (Addr.mk n3 0 none) 0 [.slice r248_p r248_n r248_c] w249 w251 ∧ 
      ∃ x252_p : Option Addr, ∃ x252_n : Nat, ∃ x252_c : Nat, CellsAt w251 (Addr.mk n3 0 none) 0 [.slice x252_p x252_n x252_c] ∧ 
      K (.tuple #[.agg #[.slice x252_p x252_n x252_c], .int .i64 r250, .int .i64 0]) w251)) ∧
    (∃ x253_p : Option Addr, ∃ x253_n : Nat, ∃ x253_c : Nat, CellsAt w236 (Addr.mk n1 0 none) 0 [.slice x253_p x253_n x253_c] ∧ 
      ∃ w254 : World, ∃ r255_p : Option Addr, ∃ r255_n : Nat, ∃ r255_c : Nat, (Builtin.append_ #[43, 43] 43 #[.slice (some (Addr.mk n235 0 none)) 0 0, .slice x155_p x155_n x155_c]).run Try.prog w236 = .ok (.slice r255_p r255_n r255_c) w254 ∧ 
      ∃ w256 : World, ∃ r257_p : Option Addr, ∃ r257_n : Nat, ∃ r257_c : Nat, (Builtin.append_ #[43, 43] 43 #[.slice r255_p r255_n r255_c, .slice (some (Addr.mk n233 0 none)) 1 1]).run Try.prog w254 = .ok (.slice r257_p r257_n r257_c) w256 ∧ 
      Calls Try.prog 65 #[.agg #[.slice x253_p x253_n x253_c]] w256 fun e w258 => ∃ r259 : Int, e = .returned (.int .i64 r259) ∧ 
      ∃ w260 : World, StoreAt (Addr.mk n3 0 none) 0 [.slice r257_p r257_n r257_c] w258 w260 ∧ 
      ∃ x261_p : Option Addr, ∃ x261_n : Nat, ∃ x261_c : Nat, CellsAt w260 (Addr.mk n3 0 none) 0 [.slice x261_p x261_n x261_c] ∧ 
      K (.tuple #[.agg #[.slice x261_p x261_n x261_c], .int .i64 r259, .int .i64 0]) w260)) ∧
    (∃ x262_p : Option Addr, ∃ x262_n : Nat, ∃ x262_c : Nat, CellsAt w234 (Addr.mk n1 0 none) 0 [.slice x262_p x262_n x262_c] ∧ 
      ∀ (n263 : Nat) (w264 : World), New (.cells #[] 105) w234 n263 w264 → 
      ∃ w265 : World, ∃ r266_p : Option Addr, ∃ r266_n : Nat, ∃ r266_c : Nat, (Builtin.append_ #[43, 43] 43 #[.slice (some (Addr.mk n263 0 none)) 0 0, .slice x155_p x155_n x155_c]).run Try.prog w264 = .ok (.slice r266_p r266_n r266_c) w265 ∧ 
      ∃ w267 : World, ∃ r268_p : Option Addr, ∃ r268_n : Nat, ∃ r268_c : Nat, (Builtin.append_ #[43, 43] 43 #[.slice r266_p r266_n r266_c, .slice (some (Addr.mk n233 0 none)) 1 1]).run Try.prog w265 = .ok (.slice r268_p r268_n r268_c) w267 ∧ 
      Calls Try.prog 65 #[.agg #[.slice x262_p x262_n x262_c]] w267 fun e w269 => ∃ r270 : Int, e = .returned (.int .i64 r270) ∧ 
      ∃ w271 : World, StoreAt (Addr.mk n3 0 none) 0 [.slice r268_p r268_n r268_c] w269 w271 ∧ 
      ∃ x272_p : Option Addr, ∃ x272_n : Nat, ∃ x272_c : Nat, CellsAt w271 (Addr.mk n3 0 none) 0 [.slice x272_p x272_n x272_c] ∧ 
      K (.tuple #[.agg #[.slice x272_p x272_n x272_c], .int .i64 r270, .int .i64 0]) w271)) ∧
    (∃ x273_p : Option Addr, ∃ x273_n : Nat, ∃ x273_c : Nat, CellsAt w11.drew (Addr.mk n1 0 none) 0 [.slice x273_p x273_n x273_c] ∧ 
      (∀ (n274 : Nat) (w275 : World), New (.cells #[] 105) w11.drew n274 w275 → 
      (∃ w276 : World, ∃ r277_p : Option Addr, ∃ r277_n : Nat, ∃ r277_c : Nat, (Builtin.append_ #[43, 43] 43 #[.slice (some (Addr.mk n274 0 none)) 0 0, .slice x155_p x155_n x155_c]).run Try.prog w275 = .ok (.slice r277_p r277_n r277_c) w276 ∧ 
      ∀ (n278 : Nat) (w279 : World), New (.cells #[.slice c__p c__n c__c, .bool false] 105) w276 n278 w279 → 
      ∃ w280 : World, ∃ r281_p : Option Addr, ∃ r281_n : Nat, ∃ r281_c : Nat, (Builtin.append_ #[43, 43] 43 #[.slice r277_p r277_n r277_c, .slice (some (Addr.mk n278 0 none)) 1 1]).run Try.prog w279 = .ok (.slice r281_p r281_n r281_c) w280 ∧ 
      Calls Try.prog 65 #[.agg #[.slice x273_p x273_n x273_c]] w280 fun e w282 => ∃ r283 : Int, e = .returned (.int .i64 r283) ∧ 
      ∃ w284 : World, StoreAt (Addr.mk n3 0 none) 0 [.slice r281_p r281_n r281_c] w282 w284 ∧ 
      ∃ x285_p : Option Addr, ∃ x285_n : Nat, ∃ x285_c : Nat, CellsAt w284 (Addr.mk n3 0 none) 0 [.slice x285_p x285_n x285_c] ∧ 
      K (.tuple #[.agg #[.slice x285_p x285_n x285_c], .int .i64 r283, .int .i64 0]) w284) ∧
    (∀ (n286 : Nat) (w287 : World), New (.cells #[.slice c__p c__n c__c, .bool false] 105) w275 n286 w287 → 
      ∃ w288 : World, ∃ r289_p : Option Addr, ∃ r289_n : Nat, ∃ r289_c : Nat, (Builtin.append_ #[43, 43] 43 #[.slice (some (Addr.mk n274 0 none)) 0 0, .slice x155_p x155_n x155_c]).run Try.prog w287 = .ok (.slice r289_p r289_n r289_c) w288 ∧ 
      ∃ w290 : World, ∃ r291_p : Option Addr, ∃ r291_n : Nat, ∃ r291_c : Nat, (Builtin.append_ #[43, 43] 43 #[.slice r289_p r289_n r289_c, .slice (some (Addr.mk n286 0 none)) 1 1]).run Try.prog w288 = .ok (.slice r291_p r291_n r291_c) w290 ∧ 
      Calls Try.prog 65 #[.agg #[.slice x273_p x273_n x273_c]] w290 fun e w292 => ∃ r293 : Int, e = .returned (.int .i64 r293) ∧ 
      ∃ w294 : World, StoreAt (Addr.mk n3 0 none) 0 [.slice r291_p r291_n r291_c] w292 w294 ∧ 
      ∃ x295_p : Option Addr, ∃ x295_n : Nat, ∃ x295_c : Nat, CellsAt w294 (Addr.mk n3 0 none) 0 [.slice x295_p x295_n x295_c] ∧ 
      K (.tuple #[.agg #[.slice x295_p x295_n x295_c], .int .i64 r293, .int .i64 0]) w294)) ∧
    (∀ (n296 : Nat) (w297 : World), New (.cells #[.slice c__p c__n c__c, .bool false] 105) w11.drew n296 w297 → 
      ∀ (n298 : Nat) (w299 : World), New (.cells #[] 105) w297 n298 w299 → 
      ∃ w300 : World, ∃ r301_p : Option Addr, ∃ r301_n : Nat, ∃ r301_c : Nat, (Builtin.append_ #[43, 43] 43 #[.slice (some (Addr.mk n298 0 none)) 0 0, .slice x155_p x155_n x155_c]).run Try.prog w299 = .ok (.slice r301_p r301_n r301_c) w300 ∧ 
      ∃ w302 : World, ∃ r303_p : Option Addr, ∃ r303_n : Nat, ∃ r303_c : Nat, (Builtin.append_ #[43, 43] 43 #[.slice r301_p r301_n r301_c, .slice (some (Addr.mk n296 0 none)) 1 1]).run Try.prog w300 = .ok (.slice r303_p r303_n r303_c) w302 ∧ 
      Calls Try.prog 65 #[.agg #[.slice x273_p x273_n x273_c]] w302 fun e w304 => ∃ r305 : Int, e = .returned (.int .i64 r305) ∧ 
      ∃ w306 : World, StoreAt (Addr.mk n3 0 none) 0 [.slice r303_p r303_n r303_c] w304 w306 ∧ 
      ∃ x307_p : Option Addr, ∃ x307_n : Nat, ∃ x307_c : Nat, CellsAt w306 (Addr.mk n3 0 none) 0 [.slice x307_p x307_n x307_c] ∧ 
      K (.tuple #[.agg #[.slice x307_p x307_n x307_c], .int .i64 r305, .int .i64 0]) w306))) ∧
    (∀ (n308 : Nat) (w309 : World), New (.cells #[.slice c__p c__n c__c, .bool false] 105) w11.drew n308 w309 → 
      (∀ (n310 : Nat) (w311 : World), New (.cells #[] 105) w309 n310 w311 → 
      ∃ x312_p : Option Addr, ∃ x312_n : Nat, ∃ x312_c : Nat, w311.cell? ((Addr.mk n1 0 none).add 0) = some (.slice x312_p x312_n x312_c) ∧ 
      (∃ w313 : World, ∃ r314_p : Option Addr, ∃ r314_n : Nat, ∃ r314_c : Nat, (Builtin.append_ #[43, 43] 43 #[.slice (some (Addr.mk n310 0 none)) 0 0, .slice x312_p x312_n x312_c]).run Try.prog w311 = .ok (.slice r314_p r314_n r314_c) w313 ∧ 
      (∃ w315 : World, ∃ r316_p : Option Addr, ∃ r316_n : Nat, ∃ r316_c : Nat, (Builtin.append_ #[43, 43] 43 #[.slice r314_p r314_n r314_c, .slice (some (Addr.mk n308 0 none)) 1 1]).run Try.prog w313 = .ok (.slice r316_p r316_n r316_c) w315 ∧ 
      ∃ x317_p : Option Addr, ∃ x317_n : Nat, ∃ x317_c : Nat, CellsAt w315 (Addr.mk n1 0 none) 0 [.slice x317_p x317_n x317_c] ∧ 
      Calls Try.prog 65 #[.agg #[.slice x317_p x317_n x317_c]] w315 fun e w318 => ∃ r319 : Int, e = .returned (.int .i64 r319) ∧ 
      ∃ w320 : World, StoreAt (Addr.mk n3 0 none) 0 [.slice r316_p r316_n r316_c] w318 w320 ∧ 
      ∃ x321_p : Option Addr, ∃ x321_n : Nat, ∃ x321_c : Nat, CellsAt w320 (Addr.mk n3 0 none) 0 [.slice x321_p x321_n x321_c] ∧ 
      K (.tuple #[.agg #[.slice x321_p x321_n x321_c], .int .i64 r319, .int .i64 0]) w320) ∧
    (∃ x322_p : Option Addr, ∃ x322_n : Nat, ∃ x322_c : Nat, CellsAt w313 (Addr.mk n1 0 none) 0 [.slice x322_p x322_n x322_c] ∧ 
      ∃ w323 : World, ∃ r324_p : Option Addr, ∃ r324_n : Nat, ∃ r324_c : Nat, (Builtin.append_ #[43, 43] 43 #[.slice r314_p r314_n r314_c, .slice (some (Addr.mk n308 0 none)) 1 1]).run Try.prog w313 = .ok (.slice r324_p r324_n r324_c) w323 ∧ 
      Calls Try.prog 65 #[.agg #[.slice x322_p x322_n x322_c]] w323 fun e w325 => ∃ r326 : Int, e = .returned (.int .i64 r326) ∧ 
      ∃ w327 : World, StoreAt (Addr.mk n3 0 none) 0 [.slice r324_p r324_n r324_c] w325 w327 ∧ 
      ∃ x328_p : Option Addr, ∃ x328_n : Nat, ∃ x328_c : Nat, CellsAt w327 (Addr.mk n3 0 none) 0 [.slice x328_p x328_n x328_c] ∧ 
      K (.tuple #[.agg #[.slice x328_p x328_n x328_c], .int .i64 r326, .int .i64 0]) w327)) ∧
    (∃ x329_p : Option Addr, ∃ x329_n : Nat, ∃ x329_c : Nat, CellsAt w311 (Addr.mk n1 0 none) 0 [.slice x329_p x329_n x329_c] ∧ 
      ∃ w330 : World, ∃ r331_p : Option Addr, ∃ r331_n : Nat, ∃ r331_c : Nat, (Builtin.append_ #[43, 43] 43 #[.slice (some (Addr.mk n310 0 none)) 0 0, .slice x312_p x312_n x312_c]).run Try.prog w311 = .ok (.slice r331_p r331_n r331_c) w330 ∧ 
      ∃ w332 : World, ∃ r333_p : Option Addr, ∃ r333_n : Nat, ∃ r333_c : Nat, (Builtin.append_ #[43, 43] 43 #[.slice r331_p r331_n r331_c, .slice (some (Addr.mk n308 0 none)) 1 1]).run Try.prog w330 = .ok (.slice r333_p r333_n r333_c) w332 ∧ 
      Calls Try.prog 65 #[.agg #[.slice x329_p x329_n x329_c]] w332 fun e w334 => ∃ r335 : Int, e = .returned (.int .i64 r335) ∧ 
      ∃ w336 : World, StoreAt (Addr.mk n3 0 none) 0 [.slice r333_p r333_n r333_c] w334 w336 ∧ 
      ∃ x337_p : Option Addr, ∃ x337_n : Nat, ∃ x337_c : Nat, CellsAt w336 (Addr.mk n3 0 none) 0 [.slice x337_p x337_n x337_c] ∧ 
      K (.tuple #[.agg #[.slice x337_p x337_n x337_c], .int .i64 r335, .int .i64 0]) w336)) ∧
    (∃ x338_p : Option Addr, ∃ x338_n : Nat, ∃ x338_c : Nat, w309.cell? ((Addr.mk n1 0 none).add 0) = some (.slice x338_p x338_n x338_c) ∧ 
      (∀ (n339 : Nat) (w340 : World), New (.cells #[] 105) w309 n339 w340 → 
      (∃ w341 : World, ∃ r342_p : Option Addr, ∃ r342_n : Nat, ∃ r342_c : Nat, (Builtin.append_ #[43, 43] 43 #[.slice (some (Addr.mk n339 0 none)) 0 0, .slice x338_p x338_n x338_c]).run Try.prog w340 = .ok (.slice r342_p r342_n r342_c) w341 ∧ 
      (∃ w343 : World, ∃ r344_p : Option Addr, ∃ r344_n : Nat, ∃ r344_c : Nat, (Builtin.append_ #[43, 43] 43 #[.slice r342_p r342_n r342_c, .slice (some (Addr.mk n308 0 none)) 1 1]).run Try.prog w341 = .ok (.slice r344_p r344_n r344_c) w343 ∧ 
      ∃ x345_p : Option Addr, ∃ x345_n : Nat, ∃ x345_c : Nat, CellsAt w343 (Addr.mk n1 0 none) 0 [.slice x345_p x345_n x345_c] ∧ 
      Calls Try.prog 65 #[.agg #[.slice x345_p x345_n x345_c]] w343 fun e w346 => ∃ r347 : Int, e = .returned (.int .i64 r347) ∧ 
      ∃ w348 : World, StoreAt (Addr.mk n3 0 none) 0 [.slice r344_p r344_n r344_c] w346 w348 ∧ 
      ∃ x349_p : Option Addr, ∃ x349_n : Nat, ∃ x349_c : Nat, CellsAt w348 (Addr.mk n3 0 none) 0 [.slice x349_p x349_n x349_c] ∧ 
      K (.tuple #[.agg #[.slice x349_p x349_n x349_c], .int .i64 r347, .int .i64 0]) w348) ∧
    (∃ x350_p : Option Addr, ∃ x350_n : Nat, ∃ x350_c : Nat, CellsAt w341 (Addr.mk n1 0 none) 0 [.slice x350_p x350_n x350_c] ∧ 
      ∃ w351 : World, ∃ r352_p : Option Addr, ∃ r352_n : Nat, ∃ r352_c : Nat, (Builtin.append_ #[43, 43] 43 #[.slice r342_p r342_n r342_c, .slice (some (Addr.mk n308 0 none)) 1 1]).run Try.prog w341 = .ok (.slice r352_p r352_n r352_c) w351 ∧ 
      Calls Try.prog 65 #[.agg #[.slice x350_p x350_n x350_c]] w351 fun e w353 => ∃ r354 : Int, e = .returned (.int .i64 r354) ∧ 
      ∃ w355 : World, StoreAt (Addr.mk n3 0 none) 0 [.slice r352_p r352_n r352_c] w353 w355 ∧ 
      ∃ x356_p : Option Addr, ∃ x356_n : Nat, ∃ x356_c : Nat, CellsAt w355 (Addr.mk n3 0 none) 0 [.slice x356_p x356_n x356_c] ∧ 
      K (.tuple #[.agg #[.slice x356_p x356_n x356_c], .int .i64 r354, .int .i64 0]) w355)) ∧
    (∃ x357_p : Option Addr, ∃ x357_n : Nat, ∃ x357_c : Nat, CellsAt w340 (Addr.mk n1 0 none) 0 [.slice x357_p x357_n x357_c] ∧ 
      ∃ w358 : World, ∃ r359_p : Option Addr, ∃ r359_n : Nat, ∃ r359_c : Nat, (Builtin.append_ #[43, 43] 43 #[.slice (some (Addr.mk n339 0 none)) 0 0, .slice x338_p x338_n x338_c]).run Try.prog w340 = .ok (.slice r359_p r359_n r359_c) w358 ∧ 
      ∃ w360 : World, ∃ r361_p : Option Addr, ∃ r361_n : Nat, ∃ r361_c : Nat, (Builtin.append_ #[43, 43] 43 #[.slice r359_p r359_n r359_c, .slice (some (Addr.mk n308 0 none)) 1 1]).run Try.prog w358 = .ok (.slice r361_p r361_n r361_c) w360 ∧ 
      Calls Try.prog 65 #[.agg #[.slice x357_p x357_n x357_c]] w360 fun e w362 => ∃ r363 : Int, e = .returned (.int .i64 r363) ∧ 
      ∃ w364 : World, StoreAt (Addr.mk n3 0 none) 0 [.slice r361_p r361_n r361_c] w362 w364 ∧ 
      ∃ x365_p : Option Addr, ∃ x365_n : Nat, ∃ x365_c : Nat, CellsAt w364 (Addr.mk n3 0 none) 0 [.slice x365_p x365_n x365_c] ∧ 
      K (.tuple #[.agg #[.slice x365_p x365_n x365_c], .int .i64 r363, .int .i64 0]) w364)) ∧
    (∃ x366_p : Option Addr, ∃ x366_n : Nat, ∃ x366_c : Nat, CellsAt w309 (Addr.mk n1 0 none) 0 [.slice x366_p x366_n x366_c] ∧ 
      ∀ (n367 : Nat) (w368 : World), New (.cells #[] 105) w309 n367 w368 → 
      ∃ w369 : World, ∃ r370_p : Option Addr, ∃ r370_n : Nat, ∃ r370_c : Nat, (Builtin.append_ #[43, 43] 43 #[.slice (some (Addr.mk n367 0 none)) 0 0, .slice x338_p x338_n x338_c]).run Try.prog w368 = .ok (.slice r370_p r370_n r370_c) w369 ∧ 
      ∃ w371 : World, ∃ r372_p : Option Addr, ∃ r372_n : Nat, ∃ r372_c : Nat, (Builtin.append_ #[43, 43] 43 #[.slice r370_p r370_n r370_c, .slice (some (Addr.mk n308 0 none)) 1 1]).run Try.prog w369 = .ok (.slice r372_p r372_n r372_c) w371 ∧ 
      Calls Try.prog 65 #[.agg #[.slice x366_p x366_n x366_c]] w371 fun e w373 => ∃ r374 : Int, e = .returned (.int .i64 r374) ∧ 
      ∃ w375 : World, StoreAt (Addr.mk n3 0 none) 0 [.slice r372_p r372_n r372_c] w373 w375 ∧ 
      ∃ x376_p : Option Addr, ∃ x376_n : Nat, ∃ x376_c : Nat, CellsAt w375 (Addr.mk n3 0 none) 0 [.slice x376_p x376_n x376_c] ∧ 
      K (.tuple #[.agg #[.slice x376_p x376_n x376_c], .int .i64 r374, .int .i64 0]) w375)) ∧
    (∃ x377_p : Option Addr, ∃ x377_n : Nat, ∃ x377_c : Nat, CellsAt w309 (Addr.mk n1 0 none) 0 [.slice x377_p x377_n x377_c] ∧ 
      (∀ (n378 : Nat) (w379 : World), New (.cells #[] 105) w309 n378 w379 → 
      ∃ x380_p : Option Addr, ∃ x380_n : Nat, ∃ x380_c : Nat, w379.cell? ((Addr.mk n1 0 none).add 0) = some (.slice x380_p x380_n x380_c) ∧ 
      ∃ w381 : World, ∃ r382_p : Option Addr, ∃ r382_n : Nat, ∃ r382_c : Nat, (Builtin.append_ #[43, 43] 43 #[.slice (some (Addr.mk n378 0 none)) 0 0, .slice x380_p x380_n x380_c]).run Try.prog w379 = .ok (.slice r382_p r382_n r382_c) w381 ∧ 
      ∃ w383 : World, ∃ r384_p : Option Addr, ∃ r384_n : Nat, ∃ r384_c : Nat, (Builtin.append_ #[43, 43] 43 #[.slice r382_p r382_n r382_c, .slice (some (Addr.mk n308 0 none)) 1 1]).run Try.prog w381 = .ok (.slice r384_p r384_n r384_c) w383 ∧ 
      Calls Try.prog 65 #[.agg #[.slice x377_p x377_n x377_c]] w383 fun e w385 => ∃ r386 : Int, e = .returned (.int .i64 r386) ∧ 
      ∃ w387 : World, StoreAt (Addr.mk n3 0 none) 0 [.slice r384_p r384_n r384_c] w385 w387 ∧ 
      ∃ x388_p : Option Addr, ∃ x388_n : Nat, ∃ x388_c : Nat, CellsAt w387 (Addr.mk n3 0 none) 0 [.slice x388_p x388_n x388_c] ∧ 
      K (.tuple #[.agg #[.slice x388_p x388_n x388_c], .int .i64 r386, .int .i64 0]) w387) ∧
    (∃ x389_p : Option Addr, ∃ x389_n : Nat, ∃ x389_c : Nat, w309.cell? ((Addr.mk n1 0 none).add 0) = some (.slice x389_p x389_n x389_c) ∧ 
      ∀ (n390 : Nat) (w391 : World), New (.cells #[] 105) w309 n390 w391 → 
      ∃ w392 : World, ∃ r393_p : Option Addr, ∃ r393_n : Nat, ∃ r393_c : Nat, (Builtin.append_ #[43, 43] 43 #[.slice (some (Addr.mk n390 0 none)) 0 0, .slice x389_p x389_n x389_c]).run Try.prog w391 = .ok (.slice r393_p r393_n r393_c) w392 ∧ 
      ∃ w394 : World, ∃ r395_p : Option Addr, ∃ r395_n : Nat, ∃ r395_c : Nat, (Builtin.append_ #[43, 43] 43 #[.slice r393_p r393_n r393_c, .slice (some (Addr.mk n308 0 none)) 1 1]).run Try.prog w392 = .ok (.slice r395_p r395_n r395_c) w394 ∧ 
      Calls Try.prog 65 #[.agg #[.slice x377_p x377_n x377_c]] w394 fun e w396 => ∃ r397 : Int, e = .returned (.int .i64 r397) ∧ 
      ∃ w398 : World, StoreAt (Addr.mk n3 0 none) 0 [.slice r395_p r395_n r395_c] w396 w398 ∧ 
      ∃ x399_p : Option Addr, ∃ x399_n : Nat, ∃ x399_c : Nat, CellsAt w398 (Addr.mk n3 0 none) 0 [.slice x399_p x399_n x399_c] ∧ 
      K (.tuple #[.agg #[.slice x399_p x399_n x399_c], .int .i64 r397, .int .i64 0]) w398))) ∧
    (∃ x400_p : Option Addr, ∃ x400_n : Nat, ∃ x400_c : Nat, CellsAt w11.drew (Addr.mk n1 0 none) 0 [.slice x400_p x400_n x400_c] ∧ 
      (∀ (n401 : Nat) (w402 : World), New (.cells #[] 105) w11.drew n401 w402 → 
      (∃ x403_p : Option Addr, ∃ x403_n : Nat, ∃ x403_c : Nat, w402.cell? ((Addr.mk n1 0 none).add 0) = some (.slice x403_p x403_n x403_c) ∧ 
      (∃ w404 : World, ∃ r405_p : Option Addr, ∃ r405_n : Nat, ∃ r405_c : Nat, (Builtin.append_ #[43, 43] 43 #[.slice (some (Addr.mk n401 0 none)) 0 0, .slice x403_p x403_n x403_c]).run Try.prog w402 = .ok (.slice r405_p r405_n r405_c) w404 ∧ 
      ∀ (n406 : Nat) (w407 : World), New (.cells #[.slice c__p c__n c__c, .bool false] 105) w404 n406 w407 → 
      ∃ w408 : World, ∃ r409_p : Option Addr, ∃ r409_n : Nat, ∃ r409_c : Nat, (Builtin.append_ #[43, 43] 43 #[.slice r405_p r405_n r405_c, .slice (some (Addr.mk n406 0 none)) 1 1]).run Try.prog w407 = .ok (.slice r409_p r409_n r409_c) w408 ∧ 
      Calls Try.prog 65 #[.agg #[.slice x400_p x400_n x400_c]] w408 fun e w410 => ∃ r411 : Int, e = .returned (.int .i64 r411) ∧ 
      ∃ w412 : World, StoreAt (Addr.mk n3 0 none) 0 [.slice r409_p r409_n r409_c] w410 w412 ∧ 
      ∃ x413_p : Option Addr, ∃ x413_n : Nat, ∃ x413_c : Nat, CellsAt w412 (Addr.mk n3 0 none) 0 [.slice x413_p x413_n x413_c] ∧ 
      K (.tuple #[.agg #[.slice x413_p x413_n x413_c], .int .i64 r411, .int .i64 0]) w412) ∧
    (∀ (n414 : Nat) (w415 : World), New (.cells #[.slice c__p c__n c__c, .bool false] 105) w402 n414 w415 → 
      ∃ w416 : World, ∃ r417_p : Option Addr, ∃ r417_n : Nat, ∃ r417_c : Nat, (Builtin.append_ #[43, 43] 43 #[.slice (some (Addr.mk n401 0 none)) 0 0, .slice x403_p x403_n x403_c]).run Try.prog w415 = .ok (.slice r417_p r417_n r417_c) w416 ∧ 
      ∃ w418 : World, ∃ r419_p : Option Addr, ∃ r419_n : Nat, ∃ r419_c : Nat, (Builtin.append_ #[43, 43] 43 #[.slice r417_p r417_n r417_c, .slice (some (Addr.mk n414 0 none)) 1 1]).run Try.prog w416 = .ok (.slice r419_p r419_n r419_c) w418 ∧ 
      Calls Try.prog 65 #[.agg #[.slice x400_p x400_n x400_c]] w418 fun e w420 => ∃ r421 : Int, e = .returned (.int .i64 r421) ∧ 
      ∃ w422 : World, StoreAt (Addr.mk n3 0 none) 0 [.slice r419_p r419_n r419_c] w420 w422 ∧ 
      ∃ x423_p : Option Addr, ∃ x423_n : Nat, ∃ x423_c : Nat, CellsAt w422 (Addr.mk n3 0 none) 0 [.slice x423_p x423_n x423_c] ∧ 
      K (.tuple #[.agg #[.slice x423_p x423_n x423_c], .int .i64 r421, .int .i64 0]) w422)) ∧
    (∀ (n424 : Nat) (w425 : World), New (.cells #[.slice c__p c__n c__c, .bool false] 105) w402 n424 w425 → 
      ∃ x426_p : Option Addr, ∃ x426_n : Nat, ∃ x426_c : Nat, w425.cell? ((Addr.mk n1 0 none).add 0) = some (.slice x426_p x426_n x426_c) ∧ 
      ∃ w427 : World, ∃ r428_p : Option Addr, ∃ r428_n : Nat, ∃ r428_c : Nat, (Builtin.append_ #[43, 43] 43 #[.slice (some (Addr.mk n401 0 none)) 0 0, .slice x426_p x426_n x426_c]).run Try.prog w425 = .ok (.slice r428_p r428_n r428_c) w427 ∧ 
      ∃ w429 : World, ∃ r430_p : Option Addr, ∃ r430_n : Nat, ∃ r430_c : Nat, (Builtin.append_ #[43, 43] 43 #[.slice r428_p r428_n r428_c, .slice (some (Addr.mk n424 0 none)) 1 1]).run Try.prog w427 = .ok (.slice r430_p r430_n r430_c) w429 ∧ 
      Calls Try.prog 65 #[.agg #[.slice x400_p x400_n x400_c]] w429 fun e w431 => ∃ r432 : Int, e = .returned (.int .i64 r432) ∧ 
      ∃ w433 : World, StoreAt (Addr.mk n3 0 none) 0 [.slice r430_p r430_n r430_c] w431 w433 ∧ 
      ∃ x434_p : Option Addr, ∃ x434_n : Nat, ∃ x434_c : Nat, CellsAt w433 (Addr.mk n3 0 none) 0 [.slice x434_p x434_n x434_c] ∧ 
      K (.tuple #[.agg #[.slice x434_p x434_n x434_c], .int .i64 r432, .int .i64 0]) w433)) ∧
    (∃ x435_p : Option Addr, ∃ x435_n : Nat, ∃ x435_c : Nat, w11.drew.cell? ((Addr.mk n1 0 none).add 0) = some (.slice x435_p x435_n x435_c) ∧ 
      (∀ (n436 : Nat) (w437 : World), New (.cells #[] 105) w11.drew n436 w437 → 
      (∃ w438 : World, ∃ r439_p : Option Addr, ∃ r439_n : Nat, ∃ r439_c : Nat, (Builtin.append_ #[43, 43] 43 #[.slice (some (Addr.mk n436 0 none)) 0 0, .slice x435_p x435_n x435_c]).run Try.prog w437 = .ok (.slice r439_p r439_n r439_c) w438 ∧ 
      ∀ (n440 : Nat) (w441 : World), New (.cells #[.slice c__p c__n c__c, .bool false] 105) w438 n440 w441 → 
      ∃ w442 : World, ∃ r443_p : Option Addr, ∃ r443_n : Nat, ∃ r443_c : Nat, (Builtin.append_ #[43, 43] 43 #[.slice r439_p r439_n r439_c, .slice (some (Addr.mk n440 0 none)) 1 1]).run Try.prog w441 = .ok (.slice r443_p r443_n r443_c) w442 ∧ 
      Calls Try.prog 65 #[.agg #[.slice x400_p x400_n x400_c]] w442 fun e w444 => ∃ r445 : Int, e = .returned (.int .i64 r445) ∧ 
      ∃ w446 : World, StoreAt (Addr.mk n3 0 none) 0 [.slice r443_p r443_n r443_c] w444 w446 ∧ 
      ∃ x447_p : Option Addr, ∃ x447_n : Nat, ∃ x447_c : Nat, CellsAt w446 (Addr.mk n3 0 none) 0 [.slice x447_p x447_n x447_c] ∧ 
      K (.tuple #[.agg #[.slice x447_p x447_n x447_c], .int .i64 r445, .int .i64 0]) w446) ∧
    (∀ (n448 : Nat) (w449 : World), New (.cells #[.slice c__p c__n c__c, .bool false] 105) w437 n448 w449 → 
      ∃ w450 : World, ∃ r451_p : Option Addr, ∃ r451_n : Nat, ∃ r451_c : Nat, (Builtin.append_ #[43, 43] 43 #[.slice (some (Addr.mk n436 0 none)) 0 0, .slice x435_p x435_n x435_c]).run Try.prog w449 = .ok (.slice r451_p r451_n r451_c) w450 ∧ 
      ∃ w452 : World, ∃ r453_p : Option Addr, ∃ r453_n : Nat, ∃ r453_c : Nat, (Builtin.append_ #[43, 43] 43 #[.slice r451_p r451_n r451_c, .slice (some (Addr.mk n448 0 none)) 1 1]).run Try.prog w450 = .ok (.slice r453_p r453_n r453_c) w452 ∧ 
      Calls Try.prog 65 #[.agg #[.slice x400_p x400_n x400_c]] w452 fun e w454 => ∃ r455 : Int, e = .returned (.int .i64 r455) ∧ 
      ∃ w456 : World, StoreAt (Addr.mk n3 0 none) 0 [.slice r453_p r453_n r453_c] w454 w456 ∧ 
      ∃ x457_p : Option Addr, ∃ x457_n : Nat, ∃ x457_c : Nat, CellsAt w456 (Addr.mk n3 0 none) 0 [.slice x457_p x457_n x457_c] ∧ 
      K (.tuple #[.agg #[.slice x457_p x457_n x457_c], .int .i64 r455, .int .i64 0]) w456)) ∧
    (∀ (n458 : Nat) (w459 : World), New (.cells #[.slice c__p c__n c__c, .bool false] 105) w11.drew n458 w459 → 
      ∀ (n460 : Nat) (w461 : World), New (.cells #[] 105) w459 n460 w461 → 
      ∃ w462 : World, ∃ r463_p : Option Addr, ∃ r463_n : Nat, ∃ r463_c : Nat, (Builtin.append_ #[43, 43] 43 #[.slice (some (Addr.mk n460 0 none)) 0 0, .slice x435_p x435_n x435_c]).run Try.prog w461 = .ok (.slice r463_p r463_n r463_c) w462 ∧ 
      ∃ w464 : World, ∃ r465_p : Option Addr, ∃ r465_n : Nat, ∃ r465_c : Nat, (Builtin.append_ #[43, 43] 43 #[.slice r463_p r463_n r463_c, .slice (some (Addr.mk n458 0 none)) 1 1]).run Try.prog w462 = .ok (.slice r465_p r465_n r465_c) w464 ∧ 
      Calls Try.prog 65 #[.agg #[.slice x400_p x400_n x400_c]] w464 fun e w466 => ∃ r467 : Int, e = .returned (.int .i64 r467) ∧ 
      ∃ w468 : World, StoreAt (Addr.mk n3 0 none) 0 [.slice r465_p r465_n r465_c] w466 w468 ∧ 
      ∃ x469_p : Option Addr, ∃ x469_n : Nat, ∃ x469_c : Nat, CellsAt w468 (Addr.mk n3 0 none) 0 [.slice x469_p x469_n x469_c] ∧ 
      K (.tuple #[.agg #[.slice x469_p x469_n x469_c], .int .i64 r467, .int .i64 0]) w468)) ∧
    (∀ (n470 : Nat) (w471 : World), New (.cells #[.slice c__p c__n c__c, .bool false] 105) w11.drew n470 w471 → 
      (∀ (n472 : Nat) (w473 : World), New (.cells #[] 105) w471 n472 w473 → 
      ∃ x474_p : Option Addr, ∃ x474_n : Nat, ∃ x474_c : Nat, w473.cell? ((Addr.mk n1 0 none).add 0) = some (.slice x474_p x474_n x474_c) ∧ 
      ∃ w475 : World, ∃ r476_p : Option Addr, ∃ r476_n : Nat, ∃ r476_c : Nat, (Builtin.append_ #[43, 43] 43 #[.slice (some (Addr.mk n472 0 none)) 0 0, .slice x474_p x474_n x474_c]).run Try.prog w473 = .ok (.slice r476_p r476_n r476_c) w475 ∧ 
      ∃ w477 : World, ∃ r478_p : Option Addr, ∃ r478_n : Nat, ∃ r478_c : Nat, (Builtin.append_ #[43, 43] 43 #[.slice r476_p r476_n r476_c, .slice (some (Addr.mk n470 0 none)) 1 1]).run Try.prog w475 = .ok (.slice r478_p r478_n r478_c) w477 ∧ 
      Calls Try.prog 65 #[.agg #[.slice x400_p x400_n x400_c]] w477 fun e w479 => ∃ r480 : Int, e = .returned (.int .i64 r480) ∧ 
      ∃ w481 : World, StoreAt (Addr.mk n3 0 none) 0 [.slice r478_p r478_n r478_c] w479 w481 ∧ 
      ∃ x482_p : Option Addr, ∃ x482_n : Nat, ∃ x482_c : Nat, CellsAt w481 (Addr.mk n3 0 none) 0 [.slice x482_p x482_n x482_c] ∧ 
      K (.tuple #[.agg #[.slice x482_p x482_n x482_c], .int .i64 r480, .int .i64 0]) w481) ∧
    (∃ x483_p : Option Addr, ∃ x483_n : Nat, ∃ x483_c : Nat, w471.cell? ((Addr.mk n1 0 none).add 0) = some (.slice x483_p x483_n x483_c) ∧ 
      ∀ (n484 : Nat) (w485 : World), New (.cells #[] 105) w471 n484 w485 → 
      ∃ w486 : World, ∃ r487_p : Option Addr, ∃ r487_n : Nat, ∃ r487_c : Nat, (Builtin.append_ #[43, 43] 43 #[.slice (some (Addr.mk n484 0 none)) 0 0, .slice x483_p x483_n x483_c]).run Try.prog w485 = .ok (.slice r487_p r487_n r487_c) w486 ∧ 
      ∃ w488 : World, ∃ r489_p : Option Addr, ∃ r489_n : Nat, ∃ r489_c : Nat, (Builtin.append_ #[43, 43] 43 #[.slice r487_p r487_n r487_c, .slice (some (Addr.mk n470 0 none)) 1 1]).run Try.prog w486 = .ok (.slice r489_p r489_n r489_c) w488 ∧ 
      Calls Try.prog 65 #[.agg #[.slice x400_p x400_n x400_c]] w488 fun e w490 => ∃ r491 : Int, e = .returned (.int .i64 r491) ∧ 
      ∃ w492 : World, StoreAt (Addr.mk n3 0 none) 0 [.slice r489_p r489_n r489_c] w490 w492 ∧ 
      ∃ x493_p : Option Addr, ∃ x493_n : Nat, ∃ x493_c : Nat, CellsAt w492 (Addr.mk n3 0 none) 0 [.slice x493_p x493_n x493_c] ∧ 
      K (.tuple #[.agg #[.slice x493_p x493_n x493_c], .int .i64 r491, .int .i64 0]) w492)))))
theorem fathomref02_Add.eq (a_0_p : Option Addr) (a_0_n : Nat) (a_0_c : Nat) (c__p : Option Addr) (c__n : Nat) (c__c : Nat) (w : World) (K : Value → World → Prop) : wpF Try.prog Try.f60 .leaf [.agg #[.slice a_0_p a_0_n a_0_c], .slice c__p c__n c__c] w K = fathomref02_Add.w a_0_p a_0_n a_0_c c__p c__n c__c w K := by kernel_rfl
theorem fathomref02_Add.ok : fnOk Try.prog Try.f60 2 = true := by kernel_rfl
theorem fathomref02_Add.calls {a_0_p : Option Addr} {a_0_n : Nat} {a_0_c : Nat} {c__p : Option Addr} {c__n : Nat} {c__c : Nat} {w : World} {R : Ending → World → Prop} (h : fathomref02_Add.w a_0_p a_0_n a_0_c c__p c__n c__c w fun v w' => R (.returned v) w') : Calls Try.prog 60 #[.agg #[.slice a_0_p a_0_n a_0_c], .slice c__p c__n c__c] w R :=
  calls_of mixed Try.func60 fathomref02_Add.ok rfl (fun K => fathomref02_Add.eq a_0_p a_0_n a_0_c c__p c__n c__c w K) h

/-! ### fathom/fathomref02.Drop: function 61 (named slots 8) -/
def fathomref02_Drop.w (a_0_p : Option Addr) (a_0_n : Nat) (a_0_c : Nat) (place_ : Int) (w : World) (K : Value → World → Prop) : Prop :=
  ∀ (n1 : Nat) (w2 : World), New (.cells #[.slice a_0_p a_0_n a_0_c] 45) w n1 w2 → 
  ∀ (n3 : Nat) (w4 : World), New (.cells #[.slice none 0 0] 45) w2 n3 w4 → 
  ∃ x5_p : Option Addr, ∃ x5_n : Nat, ∃ x5_c : Nat, CellsAt w4 (Addr.mk n1 0 none) 0 [.slice x5_p x5_n x5_c] ∧ 
  Calls Try.prog 69 #[.agg #[.slice x5_p x5_n x5_c], .int .i64 place_] w4 fun e w6 => ∃ r7 : Int, e = .returned (.int .i64 r7) ∧ 
  cnd (decide (r7 < (0 : Int)))
  (∃ x8_p : Option Addr, ∃ x8_n : Nat, ∃ x8_c : Nat, CellsAt w6 (Addr.mk n1 0 none) 0 [.slice x8_p x8_n x8_c] ∧ 
    ∃ w9 : World, StoreAt (Addr.mk n3 0 none) 0 [.slice x8_p x8_n x8_c] w6 w9 ∧ 
    ∃ x10_p : Option Addr, ∃ x10_n : Nat, ∃ x10_c : Nat, CellsAt w9 (Addr.mk n3 0 none) 0 [.slice x10_p x10_n x10_c] ∧ 
    K (.tuple #[.agg #[.slice x10_p x10_n x10_c], .int .i64 4]) w9)
  (∀ (n11 : Nat) (w12 : World), New (.cells #[] 105) w6 n11 w12 → 
    ∃ x13_p : Option Addr, ∃ x13_n : Nat, ∃ x13_c : Nat, w12.cell? ((Addr.mk n1 0 none).add 0) = some (.slice x13_p x13_n x13_c) ∧ 
    ∃ w14 : World, ∃ r15_p : Option Addr, ∃ r15_n : Nat, ∃ r15_c : Nat, (Builtin.append_ #[43, 43] 43 #[.slice (some (Addr.mk n11 0 none)) 0 0, .slice x13_p x13_n x13_c]).run Try.prog w12 = .ok (.slice r15_p r15_n r15_c) w14 ∧ 
    ixK r15_p r15_n r7 2 fun a16 =>
    ∃ w17 : World, StoreAt (a16.add 1) 0 [.bool true] w14 w17 ∧ 
    ∃ w18 : World, StoreAt (Addr.mk n3 0 none) 0 [.slice r15_p r15_n r15_c] w17 w18 ∧ 
    ∃ x19_p : Option Addr, ∃ x19_n : Nat, ∃ x19_c : Nat, CellsAt w18 (Addr.mk n3 0 none) 0 [.slice x19_p x19_n x19_c] ∧ 
    K (.tuple #[.agg #[.slice x19_p x19_n x19_c], .int .i64 0]) w18)
theorem fathomref02_Drop.eq (a_0_p : Option Addr) (a_0_n : Nat) (a_0_c : Nat) (place_ : Int) (w : World) (K : Value → World → Prop) : wpF Try.prog Try.f61 .leaf [.agg #[.slice a_0_p a_0_n a_0_c], .int .i64 place_] w K = fathomref02_Drop.w a_0_p a_0_n a_0_c place_ w K := by kernel_rfl
theorem fathomref02_Drop.ok : fnOk Try.prog Try.f61 2 = true := by kernel_rfl
theorem fathomref02_Drop.calls {a_0_p : Option Addr} {a_0_n : Nat} {a_0_c : Nat} {place_ : Int} {w : World} {R : Ending → World → Prop} (h : fathomref02_Drop.w a_0_p a_0_n a_0_c place_ w fun v w' => R (.returned v) w') : Calls Try.prog 61 #[.agg #[.slice a_0_p a_0_n a_0_c], .int .i64 place_] w R :=
  calls_of mixed Try.func61 fathomref02_Drop.ok rfl (fun K => fathomref02_Drop.eq a_0_p a_0_n a_0_c place_ w K) h

/-! ### fathom/fathomref02.Swap: function 62 (named slots 13) -/
def fathomref02_Swap.w (a_0_p : Option Addr) (a_0_n : Nat) (a_0_c : Nat) (place_ : Int) (x2_ : Int) (y_ : Int) (w : World) (K : Value → World → Prop) : Prop :=
  ∀ (n1 : Nat) (w2 : World), New (.cells #[.slice a_0_p a_0_n a_0_c] 45) w n1 w2 → 
  ∀ (n3 : Nat) (w4 : World), New (.cells #[.slice none 0 0] 45) w2 n3 w4 → 
  ∃ x5_p : Option Addr, ∃ x5_n : Nat, ∃ x5_c : Nat, CellsAt w4 (Addr.mk n1 0 none) 0 [.slice x5_p x5_n x5_c] ∧ 
  Calls Try.prog 69 #[.agg #[.slice x5_p x5_n x5_c], .int .i64 place_] w4 fun e w6 => ∃ r7 : Int, e = .returned (.int .i64 r7) ∧ 
  cnd (decide (r7 < (0 : Int)))
  (∃ x8_p : Option Addr, ∃ x8_n : Nat, ∃ x8_c : Nat, CellsAt w6 (Addr.mk n1 0 none) 0 [.slice x8_p x8_n x8_c] ∧ 
    ∃ w9 : World, StoreAt (Addr.mk n3 0 none) 0 [.slice x8_p x8_n x8_c] w6 w9 ∧ 
    ∃ x10_p : Option Addr, ∃ x10_n : Nat, ∃ x10_c : Nat, CellsAt w9 (Addr.mk n3 0 none) 0 [.slice x10_p x10_n x10_c] ∧ 
    K (.tuple #[.agg #[.slice x10_p x10_n x10_c], .int .i64 4]) w9)
  (cnd (decide (x2_ < (0 : Int)))
    (∃ x11_p : Option Addr, ∃ x11_n : Nat, ∃ x11_c : Nat, CellsAt w6 (Addr.mk n1 0 none) 0 [.slice x11_p x11_n x11_c] ∧ 
    ∃ w12 : World, StoreAt (Addr.mk n3 0 none) 0 [.slice x11_p x11_n x11_c] w6 w12 ∧ 
    ∃ x13_p : Option Addr, ∃ x13_n : Nat, ∃ x13_c : Nat, CellsAt w12 (Addr.mk n3 0 none) 0 [.slice x13_p x13_n x13_c] ∧ 
    K (.tuple #[.agg #[.slice x13_p x13_n x13_c], .int .i64 1]) w12)
    (cnd (decide (y_ < (0 : Int)))
    (∃ x14_p : Option Addr, ∃ x14_n : Nat, ∃ x14_c : Nat, CellsAt w6 (Addr.mk n1 0 none) 0 [.slice x14_p x14_n x14_c] ∧ 
    ∃ w15 : World, StoreAt (Addr.mk n3 0 none) 0 [.slice x14_p x14_n x14_c] w6 w15 ∧ 
    ∃ x16_p : Option Addr, ∃ x16_n : Nat, ∃ x16_c : Nat, CellsAt w15 (Addr.mk n3 0 none) 0 [.slice x16_p x16_n x16_c] ∧ 
    K (.tuple #[.agg #[.slice x16_p x16_n x16_c], .int .i64 1]) w15)
    (∃ x17_p : Option Addr, ∃ x17_n : Nat, ∃ x17_c : Nat, w6.cell? ((Addr.mk n1 0 none).add 0) = some (.slice x17_p x17_n x17_c) ∧ 
    ixK x17_p x17_n r7 2 fun a18 =>
    ∃ x19_p : Option Addr, ∃ x19_n : Nat, ∃ x19_c : Nat, w6.cell? (a18.add 0) = some (.slice x19_p x19_n x19_c) ∧ 
    cnd (decide (x2_ ≥ (x19_n : Int)))
    (∃ x20_p : Option Addr, ∃ x20_n : Nat, ∃ x20_c : Nat, CellsAt w6 (Addr.mk n1 0 none) 0 [.slice x20_p x20_n x20_c] ∧ 
    ∃ w21 : World, StoreAt (Addr.mk n3 0 none) 0 [.slice x20_p x20_n x20_c] w6 w21 ∧ 
    ∃ x22_p : Option Addr, ∃ x22_n : Nat, ∃ x22_c : Nat, CellsAt w21 (Addr.mk n3 0 none) 0 [.slice x22_p x22_n x22_c] ∧ 
    K (.tuple #[.agg #[.slice x22_p x22_n x22_c], .int .i64 1]) w21)
    (∃ x23_p : Option Addr, ∃ x23_n : Nat, ∃ x23_c : Nat, w6.cell? ((Addr.mk n1 0 none).add 0) = some (.slice x23_p x23_n x23_c) ∧ 
    ixK x23_p x23_n r7 2 fun a24 =>
    ∃ x25_p : Option Addr, ∃ x25_n : Nat, ∃ x25_c : Nat, w6.cell? (a24.add 0) = some (.slice x25_p x25_n x25_c) ∧ 
    cnd (decide (y_ ≥ (x25_n : Int)))
    (∃ x26_p : Option Addr, ∃ x26_n : Nat, ∃ x26_c : Nat, CellsAt w6 (Addr.mk n1 0 none) 0 [.slice x26_p x26_n x26_c] ∧ 
      ∃ w27 : World, StoreAt (Addr.mk n3 0 none) 0 [.slice x26_p x26_n x26_c] w6 w27 ∧ 
      ∃ x28_p : Option Addr, ∃ x28_n : Nat, ∃ x28_c : Nat, CellsAt w27 (Addr.mk n3 0 none) 0 [.slice x28_p x28_n x28_c] ∧ 
      K (.tuple #[.agg #[.slice x28_p x28_n x28_c], .int .i64 1]) w27)
    (∀ (n29 : Nat) (w30 : World), New (.cells #[] 3) w6 n29 w30 → 
      ∃ x31_p : Option Addr, ∃ x31_n : Nat, ∃ x31_c : Nat, w30.cell? ((Addr.mk n1 0 none).add 0) = some (.slice x31_p x31_n x31_c) ∧ 
      ixK x31_p x31_n r7 2 fun a32 =>
      ∃ x33_p : Option Addr, ∃ x33_n : Nat, ∃ x33_c : Nat, w30.cell? (a32.add 0) = some (.slice x33_p x33_n x33_c) ∧ 
      ∃ w34 : World, ∃ r35_p : Option Addr, ∃ r35_n : Nat, ∃ r35_c : Nat, (Builtin.append_ #[49, 49] 49 #[.slice (some (Addr.mk n29 0 none)) 0 0, .slice x33_p x33_n x33_c]).run Try.prog w30 = .ok (.slice r35_p r35_n r35_c) w34 ∧ 
      ∃ x36_p : Option Addr, ∃ x36_n : Nat, ∃ x36_c : Nat, w34.cell? ((Addr.mk n1 0 none).add 0) = some (.slice x36_p x36_n x36_c) ∧ 
      ixK x36_p x36_n r7 2 fun a37 =>
      ∃ x38_p : Option Addr, ∃ x38_n : Nat, ∃ x38_c : Nat, w34.cell? (a37.add 0) = some (.slice x38_p x38_n x38_c) ∧ 
      ixK x38_p x38_n y_ 1 fun a39 =>
      ∃ x40 : Int, w34.cell? a39 = some (.int .i64 x40) ∧ 
      ixK r35_p r35_n x2_ 1 fun a41 =>
      ∃ w42 : World, StoreAt a41 0 [.int .i64 x40] w34 w42 ∧ 
      ∃ x43_p : Option Addr, ∃ x43_n : Nat, ∃ x43_c : Nat, w42.cell? ((Addr.mk n1 0 none).add 0) = some (.slice x43_p x43_n x43_c) ∧ 
      ixK x43_p x43_n r7 2 fun a44 =>
      ∃ x45_p : Option Addr, ∃ x45_n : Nat, ∃ x45_c : Nat, w42.cell? (a44.add 0) = some (.slice x45_p x45_n x45_c) ∧ 
      ixK x45_p x45_n x2_ 1 fun a46 =>
      ∃ x47 : Int, w42.cell? a46 = some (.int .i64 x47) ∧ 
      ixK r35_p r35_n y_ 1 fun a48 =>
      ∃ w49 : World, StoreAt a48 0 [.int .i64 x47] w42 w49 ∧ 
      ∀ (n50 : Nat) (w51 : World), New (.cells #[] 105) w49 n50 w51 → 
      ∃ x52_p : Option Addr, ∃ x52_n : Nat, ∃ x52_c : Nat, w51.cell? ((Addr.mk n1 0 none).add 0) = some (.slice x52_p x52_n x52_c) ∧ 
      ∃ w53 : World, ∃ r54_p : Option Addr, ∃ r54_n : Nat, ∃ r54_c : Nat, (Builtin.append_ #[43, 43] 43 #[.slice (some (Addr.mk n50 0 none)) 0 0, .slice x52_p x52_n x52_c]).run Try.prog w51 = .ok (.slice r54_p r54_n r54_c) w53 ∧ 
      ixK r54_p r54_n r7 2 fun a55 =>
      ∃ w56 : World, StoreAt (a55.add 0) 0 [.slice r35_p r35_n r35_c] w53 w56 ∧ 
      ∃ w57 : World, StoreAt (Addr.mk n3 0 none) 0 [.slice r54_p r54_n r54_c] w56 w57 ∧ 
      ∃ x58_p : Option Addr, ∃ x58_n : Nat, ∃ x58_c : Nat, CellsAt w57 (Addr.mk n3 0 none) 0 [.slice x58_p x58_n x58_c] ∧ 
      K (.tuple #[.agg #[.slice x58_p x58_n x58_c], .int .i64 0]) w57)))))
theorem fathomref02_Swap.eq (a_0_p : Option Addr) (a_0_n : Nat) (a_0_c : Nat) (place_ : Int) (x2_ : Int) (y_ : Int) (w : World) (K : Value → World → Prop) : wpF Try.prog Try.f62 .leaf [.agg #[.slice a_0_p a_0_n a_0_c], .int .i64 place_, .int .i64 x2_, .int .i64 y_] w K = fathomref02_Swap.w a_0_p a_0_n a_0_c place_ x2_ y_ w K := by kernel_rfl
theorem fathomref02_Swap.ok : fnOk Try.prog Try.f62 4 = true := by kernel_rfl
theorem fathomref02_Swap.calls {a_0_p : Option Addr} {a_0_n : Nat} {a_0_c : Nat} {place_ : Int} {x2_ : Int} {y_ : Int} {w : World} {R : Ending → World → Prop} (h : fathomref02_Swap.w a_0_p a_0_n a_0_c place_ x2_ y_ w fun v w' => R (.returned v) w') : Calls Try.prog 62 #[.agg #[.slice a_0_p a_0_n a_0_c], .int .i64 place_, .int .i64 x2_, .int .i64 y_] w R :=
  calls_of mixed Try.func62 fathomref02_Swap.ok rfl (fun K => fathomref02_Swap.eq a_0_p a_0_n a_0_c place_ x2_ y_ w K) h

/-! ### fathom/fathomref02.Pack: function 63 (named slots 8) -/
def fathomref02_Pack.w (a_0_p : Option Addr) (a_0_n : Nat) (a_0_c : Nat) (w : World) (K : Value → World → Prop) : Prop :=
  ∀ (n1 : Nat) (w2 : World), New (.cells #[.slice a_0_p a_0_n a_0_c] 45) w n1 w2 → 
  ∀ (n3 : Nat) (w4 : World), New (.cells #[.slice none 0 0] 45) w2 n3 w4 → 
  ∀ (n5 : Nat) (w6 : World), New (.cells #[.slice none 0 0] 45) w4 n5 w6 → 
  ∃ w7 : World, StoreAt (Addr.mk n5 0 none) 0 [.slice none 0 0] w6 w7 ∧ 
  ∀ (n8 : Nat) (w9 : World), New (.cells #[] 59) w7 n8 w9 → 
  ∃ x10_p : Option Addr, ∃ x10_n : Nat, ∃ x10_c : Nat, CellsAt w9 (Addr.mk n1 0 none) 0 [.slice x10_p x10_n x10_c] ∧ 
  Calls Try.prog 64 #[.agg #[.slice x10_p x10_n x10_c]] w9 fun e w11 => ∃ r12_p : Option Addr, ∃ r12_n : Nat, ∃ r12_c : Nat, e = .returned (.slice r12_p r12_n r12_c) ∧ 
  ∃ I13 : Option Addr → Nat → Nat → Int → World → Nat → Prop, (∃ k14, I13 (some (Addr.mk n8 0 none)) 0 0 0 w11 k14) ∧
  ∀ (l_16_p : Option Addr) (l_16_n : Nat) (l_16_c : Nat) (i_17 : Int) (w18 : World) (k14 : Nat) (_ : Fr), I13 l_16_p l_16_n l_16_c i_17 w18 k14 →
  ∃ x19_p : Option Addr, ∃ x19_n : Nat, ∃ x19_c : Nat, w18.cell? ((Addr.mk n1 0 none).add 0) = some (.slice x19_p x19_n x19_c) ∧ 
    cnd (decide (i_17 < (x19_n : Int)))
    (∃ x20_p : Option Addr, ∃ x20_n : Nat, ∃ x20_c : Nat, w18.cell? ((Addr.mk n1 0 none).add 0) = some (.slice x20_p x20_n x20_c) ∧ 
      ixK x20_p x20_n i_17 2 fun a21 =>
      ∃ x22 : Bool, w18.cell? (a21.add 1) = some (.bool x22) ∧ 
      cnd (!x22)
      (∃ x23_p : Option Addr, ∃ x23_n : Nat, ∃ x23_c : Nat, CellsAt w18.drew (Addr.mk n5 0 none) 0 [.slice x23_p x23_n x23_c] ∧ 
        (∃ x24_p : Option Addr, ∃ x24_n : Nat, ∃ x24_c : Nat, w18.drew.cell? ((Addr.mk n5 0 none).add 0) = some (.slice x24_p x24_n x24_c) ∧ 
        (ixK r12_p r12_n (x24_n : Int) 1 fun a25 =>
        (∃ x26 : Int, w18.drew.cell? a25 = some (.int .i64 x26) ∧ 
        Calls Try.prog 65 #[.agg #[.slice x23_p x23_n x23_c]] w18.drew fun e w27 => ∃ r28 : Int, e = .returned (.int .i64 r28) ∧ 
        ∀ (n29 : Nat) (w30 : World), New (.cells #[.int .i64 x26, .int .i64 r28] 59) w27 n29 w30 → 
        ∃ w31 : World, ∃ r32_p : Option Addr, ∃ r32_n : Nat, ∃ r32_c : Nat, (Builtin.append_ #[56, 56] 56 #[.slice l_16_p l_16_n l_16_c, .slice (some (Addr.mk n29 0 none)) 1 1]).run Try.prog w30 = .ok (.slice r32_p r32_n r32_c) w31 ∧ 
        ∃ x33_p : Option Addr, ∃ x33_n : Nat, ∃ x33_c : Nat, w31.drew.cell? ((Addr.mk n1 0 none).add 0) = some (.slice x33_p x33_n x33_c) ∧ 
        ixK x33_p x33_n i_17 2 fun a34 =>
        ∃ x35_p : Option Addr, ∃ x35_n : Nat, ∃ x35_c : Nat, ∃ x36 : Bool, CellsAt w31.drew a34 0 [.slice x35_p x35_n x35_c, .bool x36] ∧ 
        (∃ x37_p : Option Addr, ∃ x37_n : Nat, ∃ x37_c : Nat, w31.drew.cell? ((Addr.mk n5 0 none).add 0) = some (.slice x37_p x37_n x37_c) ∧ 
        ∀ (n38 : Nat) (w39 : World), New (.cells #[.slice x35_p x35_n x35_c, .bool x36] 105) w31.drew n38 w39 → 
        ∃ w40 : World, ∃ r41_p : Option Addr, ∃ r41_n : Nat, ∃ r41_c : Nat, (Builtin.append_ #[43, 43] 43 #[.slice x37_p x37_n x37_c, .slice (some (Addr.mk n38 0 none)) 1 1]).run Try.prog w39 = .ok (.slice r41_p r41_n r41_c) w40 ∧ 
        ∃ w42 : World, StoreAt ((Addr.mk n5 0 none).add 0) 0 [.slice r41_p r41_n r41_c] w40 w42 ∧ 
        ∃ k15, k15 < k14 ∧ I13 r32_p r32_n r32_c (IntKind.i64.wrap (i_17 + (1 : Int))) w42 k15) ∧
      (∀ (n43 : Nat) (w44 : World), New (.cells #[.slice x35_p x35_n x35_c, .bool x36] 105) w31.drew n43 w44 → 
        ∃ x45_p : Option Addr, ∃ x45_n : Nat, ∃ x45_c : Nat, w44.cell? ((Addr.mk n5 0 none).add 0) = some (.slice x45_p x45_n x45_c) ∧ 
        ∃ w46 : World, ∃ r47_p : Option Addr, ∃ r47_n : Nat, ∃ r47_c : Nat, (Builtin.append_ #[43, 43] 43 #[.slice x45_p x45_n x45_c, .slice (some (Addr.mk n43 0 none)) 1 1]).run Try.prog w44 = .ok (.slice r47_p r47_n r47_c) w46 ∧ 
        ∃ w48 : World, StoreAt ((Addr.mk n5 0 none).add 0) 0 [.slice r47_p r47_n r47_c] w46 w48 ∧ 
        ∃ k15, k15 < k14 ∧ I13 r32_p r32_n r32_c (IntKind.i64.wrap (i_17 + (1 : Int))) w48 k15)) ∧
      (Calls Try.prog 65 #[.agg #[.slice x23_p x23_n x23_c]] w18.drew fun e w49 => ∃ r50 : Int, e = .returned (.int .i64 r50) ∧ 
        ∃ x51 : Int, w49.cell? a25 = some (.int .i64 x51) ∧ 
        ∀ (n52 : Nat) (w53 : World), New (.cells #[.int .i64 x51, .int .i64 r50] 59) w49 n52 w53 → 
        ∃ w54 : World, ∃ r55_p : Option Addr, ∃ r55_n : Nat, ∃ r55_c : Nat, (Builtin.append_ #[56, 56] 56 #[.slice l_16_p l_16_n l_16_c, .slice (some (Addr.mk n52 0 none)) 1 1]).run Try.prog w53 = .ok (.slice r55_p r55_n r55_c) w54 ∧ 
        ∃ x56_p : Option Addr, ∃ x56_n : Nat, ∃ x56_c : Nat, w54.drew.cell? ((Addr.mk n1 0 none).add 0) = some (.slice x56_p x56_n x56_c) ∧ 
        ixK x56_p x56_n i_17 2 fun a57 =>
        ∃ x58_p : Option Addr, ∃ x58_n : Nat, ∃ x58_c : Nat, ∃ x59 : Bool, CellsAt w54.drew a57 0 [.slice x58_p x58_n x58_c, .bool x59] ∧ 
        (∃ x60_p : Option Addr, ∃ x60_n : Nat, ∃ x60_c : Nat, w54.drew.cell? ((Addr.mk n5 0 none).add 0) = some (.slice x60_p x60_n x60_c) ∧ 
        ∀ (n61 : Nat) (w62 : World), New (.cells #[.slice x58_p x58_n x58_c, .bool x59] 105) w54.drew n61 w62 → 
        ∃ w63 : World, ∃ r64_p : Option Addr, ∃ r64_n : Nat, ∃ r64_c : Nat, (Builtin.append_ #[43, 43] 43 #[.slice x60_p x60_n x60_c, .slice (some (Addr.mk n61 0 none)) 1 1]).run Try.prog w62 = .ok (.slice r64_p r64_n r64_c) w63 ∧ 
        ∃ w65 : World, StoreAt ((Addr.mk n5 0 none).add 0) 0 [.slice r64_p r64_n r64_c] w63 w65 ∧ 
        ∃ k15, k15 < k14 ∧ I13 r55_p r55_n r55_c (IntKind.i64.wrap (i_17 + (1 : Int))) w65 k15) ∧
      (∀ (n66 : Nat) (w67 : World), New (.cells #[.slice x58_p x58_n x58_c, .bool x59] 105) w54.drew n66 w67 → 
        ∃ x68_p : Option Addr, ∃ x68_n : Nat, ∃ x68_c : Nat, w67.cell? ((Addr.mk n5 0 none).add 0) = some (.slice x68_p x68_n x68_c) ∧ 
        ∃ w69 : World, ∃ r70_p : Option Addr, ∃ r70_n : Nat, ∃ r70_c : Nat, (Builtin.append_ #[43, 43] 43 #[.slice x68_p x68_n x68_c, .slice (some (Addr.mk n66 0 none)) 1 1]).run Try.prog w67 = .ok (.slice r70_p r70_n r70_c) w69 ∧ 
        ∃ w71 : World, StoreAt ((Addr.mk n5 0 none).add 0) 0 [.slice r70_p r70_n r70_c] w69 w71 ∧ 
        ∃ k15, k15 < k14 ∧ I13 r55_p r55_n r55_c (IntKind.i64.wrap (i_17 + (1 : Int))) w71 k15))) ∧
      (Calls Try.prog 65 #[.agg #[.slice x23_p x23_n x23_c]] w18.drew fun e w72 => ∃ r73 : Int, e = .returned (.int .i64 r73) ∧ 
        ixK r12_p r12_n (x24_n : Int) 1 fun a74 =>
        ∃ x75 : Int, w72.cell? a74 = some (.int .i64 x75) ∧ 
        ∀ (n76 : Nat) (w77 : World), New (.cells #[.int .i64 x75, .int .i64 r73] 59) w72 n76 w77 → 
        ∃ w78 : World, ∃ r79_p : Option Addr, ∃ r79_n : Nat, ∃ r79_c : Nat, (Builtin.append_ #[56, 56] 56 #[.slice l_16_p l_16_n l_16_c, .slice (some (Addr.mk n76 0 none)) 1 1]).run Try.prog w77 = .ok (.slice r79_p r79_n r79_c) w78 ∧ 
        ∃ x80_p : Option Addr, ∃ x80_n : Nat, ∃ x80_c : Nat, w78.drew.cell? ((Addr.mk n1 0 none).add 0) = some (.slice x80_p x80_n x80_c) ∧ 
        ixK x80_p x80_n i_17 2 fun a81 =>
        ∃ x82_p : Option Addr, ∃ x82_n : Nat, ∃ x82_c : Nat, ∃ x83 : Bool, CellsAt w78.drew a81 0 [.slice x82_p x82_n x82_c, .bool x83] ∧ 
        (∃ x84_p : Option Addr, ∃ x84_n : Nat, ∃ x84_c : Nat, w78.drew.cell? ((Addr.mk n5 0 none).add 0) = some (.slice x84_p x84_n x84_c) ∧ 
        ∀ (n85 : Nat) (w86 : World), New (.cells #[.slice x82_p x82_n x82_c, .bool x83] 105) w78.drew n85 w86 → 
        ∃ w87 : World, ∃ r88_p : Option Addr, ∃ r88_n : Nat, ∃ r88_c : Nat, (Builtin.append_ #[43, 43] 43 #[.slice x84_p x84_n x84_c, .slice (some (Addr.mk n85 0 none)) 1 1]).run Try.prog w86 = .ok (.slice r88_p r88_n r88_c) w87 ∧ 
        ∃ w89 : World, StoreAt ((Addr.mk n5 0 none).add 0) 0 [.slice r88_p r88_n r88_c] w87 w89 ∧ 
        ∃ k15, k15 < k14 ∧ I13 r79_p r79_n r79_c (IntKind.i64.wrap (i_17 + (1 : Int))) w89 k15) ∧
      (∀ (n90 : Nat) (w91 : World), New (.cells #[.slice x82_p x82_n x82_c, .bool x83] 105) w78.drew n90 w91 → 
        ∃ x92_p : Option Addr, ∃ x92_n : Nat, ∃ x92_c : Nat, w91.cell? ((Addr.mk n5 0 none).add 0) = some (.slice x92_p x92_n x92_c) ∧ 
        ∃ w93 : World, ∃ r94_p : Option Addr, ∃ r94_n : Nat, ∃ r94_c : Nat, (Builtin.append_ #[43, 43] 43 #[.slice x92_p x92_n x92_c, .slice (some (Addr.mk n90 0 none)) 1 1]).run Try.prog w91 = .ok (.slice r94_p r94_n r94_c) w93 ∧ 
        ∃ w95 : World, StoreAt ((Addr.mk n5 0 none).add 0) 0 [.slice r94_p r94_n r94_c] w93 w95 ∧ 
        ∃ k15, k15 < k14 ∧ I13 r79_p r79_n r79_c (IntKind.i64.wrap (i_17 + (1 : Int))) w95 k15))) ∧
      (Calls Try.prog 65 #[.agg #[.slice x23_p x23_n x23_c]] w18.drew fun e w96 => ∃ r97 : Int, e = .returned (.int .i64 r97) ∧ 
        ∃ x98_p : Option Addr, ∃ x98_n : Nat, ∃ x98_c : Nat, w96.cell? ((Addr.mk n5 0 none).add 0) = some (.slice x98_p x98_n x98_c) ∧ 
        ixK r12_p r12_n (x98_n : Int) 1 fun a99 =>
        ∃ x100 : Int, w96.cell? a99 = some (.int .i64 x100) ∧ 
        ∀ (n101 : Nat) (w102 : World), New (.cells #[.int .i64 x100, .int .i64 r97] 59) w96 n101 w102 → 
        ∃ w103 : World, ∃ r104_p : Option Addr, ∃ r104_n : Nat, ∃ r104_c : Nat, (Builtin.append_ #[56, 56] 56 #[.slice l_16_p l_16_n l_16_c, .slice (some (Addr.mk n101 0 none)) 1 1]).run Try.prog w102 = .ok (.slice r104_p r104_n r104_c) w103 ∧ 
        ∃ x105_p : Option Addr, ∃ x105_n : Nat, ∃ x105_c : Nat, w103.drew.cell? ((Addr.mk n1 0 none).add 0) = some (.slice x105_p x105_n x105_c) ∧ 
        ixK x105_p x105_n i_17 2 fun a106 =>
        ∃ x107_p : Option Addr, ∃ x107_n : Nat, ∃ x107_c : Nat, ∃ x108 : Bool, CellsAt w103.drew a106 0 [.slice x107_p x107_n x107_c, .bool x108] ∧ 
        (∃ x109_p : Option Addr, ∃ x109_n : Nat, ∃ x109_c : Nat, w103.drew.cell? ((Addr.mk n5 0 none).add 0) = some (.slice x109_p x109_n x109_c) ∧ 
        ∀ (n110 : Nat) (w111 : World), New (.cells #[.slice x107_p x107_n x107_c, .bool x108] 105) w103.drew n110 w111 → 
        ∃ w112 : World, ∃ r113_p : Option Addr, ∃ r113_n : Nat, ∃ r113_c : Nat, (Builtin.append_ #[43, 43] 43 #[.slice x109_p x109_n x109_c, .slice (some (Addr.mk n110 0 none)) 1 1]).run Try.prog w111 = .ok (.slice r113_p r113_n r113_c) w112 ∧ 
        ∃ w114 : World, StoreAt ((Addr.mk n5 0 none).add 0) 0 [.slice r113_p r113_n r113_c] w112 w114 ∧ 
        ∃ k15, k15 < k14 ∧ I13 r104_p r104_n r104_c (IntKind.i64.wrap (i_17 + (1 : Int))) w114 k15) ∧
      (∀ (n115 : Nat) (w116 : World), New (.cells #[.slice x107_p x107_n x107_c, .bool x108] 105) w103.drew n115 w116 → 
        ∃ x117_p : Option Addr, ∃ x117_n : Nat, ∃ x117_c : Nat, w116.cell? ((Addr.mk n5 0 none).add 0) = some (.slice x117_p x117_n x117_c) ∧ 
        ∃ w118 : World, ∃ r119_p : Option Addr, ∃ r119_n : Nat, ∃ r119_c : Nat, (Builtin.append_ #[43, 43] 43 #[.slice x117_p x117_n x117_c, .slice (some (Addr.mk n115 0 none)) 1 1]).run Try.prog w116 = .ok (.slice r119_p r119_n r119_c) w118 ∧ 
        ∃ w120 : World, StoreAt ((Addr.mk n5 0 none).add 0) 0 [.slice r119_p r119_n r119_c] w118 w120 ∧ 
        ∃ k15, k15 < k14 ∧ I13 r104_p r104_n r104_c (IntKind.i64.wrap (i_17 + (1 : Int))) w120 k15)))
      (∃ k15, k15 < k14 ∧ I13 l_16_p l_16_n l_16_c (IntKind.i64.wrap (i_17 + (1 : Int))) w18 k15))
    (∃ x121_p : Option Addr, ∃ x121_n : Nat, ∃ x121_c : Nat, CellsAt w18 (Addr.mk n5 0 none) 0 [.slice x121_p x121_n x121_c] ∧ 
      ∃ w122 : World, StoreAt (Addr.mk n3 0 none) 0 [.slice x121_p x121_n x121_c] w18 w122 ∧ 
      ∃ x123_p : Option Addr, ∃ x123_n : Nat, ∃ x123_c : Nat, CellsAt w122 (Addr.mk n3 0 none) 0 [.slice x123_p x123_n x123_c] ∧ 
      K (.tuple #[.agg #[.slice x123_p x123_n x123_c], .slice l_16_p l_16_n l_16_c]) w122)
theorem fathomref02_Pack.eq (a_0_p : Option Addr) (a_0_n : Nat) (a_0_c : Nat) (w : World) (K : Value → World → Prop) : wpF Try.prog Try.f63 (.two .leaf (.two .leaf (.two .leaf (.two .leaf (.two (.two .leaf (.one (.loop [(5, 56), (7, 3)] .leaf))) .leaf))))) [.agg #[.slice a_0_p a_0_n a_0_c]] w K = fathomref02_Pack.w a_0_p a_0_n a_0_c w K := by kernel_rfl
theorem fathomref02_Pack.ok : fnOk Try.prog Try.f63 1 = true := by kernel_rfl
theorem fathomref02_Pack.calls {a_0_p : Option Addr} {a_0_n : Nat} {a_0_c : Nat} {w : World} {R : Ending → World → Prop} (h : fathomref02_Pack.w a_0_p a_0_n a_0_c w fun v w' => R (.returned v) w') : Calls Try.prog 63 #[.agg #[.slice a_0_p a_0_n a_0_c]] w R :=
  calls_of mixed Try.func63 fathomref02_Pack.ok rfl (fun K => fathomref02_Pack.eq a_0_p a_0_n a_0_c w K) h

/-! ### fathom/fathomref02.Places: function 64 (named slots 6) -/
def fathomref02_Places.w (a_0_p : Option Addr) (a_0_n : Nat) (a_0_c : Nat) (w : World) (K : Value → World → Prop) : Prop :=
  ∀ (n1 : Nat) (w2 : World), New (.cells #[.slice a_0_p a_0_n a_0_c] 45) w n1 w2 → 
  ∀ (n3 : Nat) (w4 : World), New (.cells #[] 3) w2 n3 w4 → 
  ∃ I5 : Option Addr → Nat → Nat → Int → Int → World → Nat → Prop, (∃ k6, I5 (some (Addr.mk n3 0 none)) 0 0 0 0 w4 k6) ∧
  ∀ (out_8_p : Option Addr) (out_8_n : Nat) (out_8_c : Nat) (n_9 : Int) (i_10 : Int) (w11 : World) (k6 : Nat) (_ : Fr), I5 out_8_p out_8_n out_8_c n_9 i_10 w11 k6 →
  ∃ x12_p : Option Addr, ∃ x12_n : Nat, ∃ x12_c : Nat, w11.cell? ((Addr.mk n1 0 none).add 0) = some (.slice x12_p x12_n x12_c) ∧ 
    cnd (decide (i_10 < (x12_n : Int)))
    (∃ x13_p : Option Addr, ∃ x13_n : Nat, ∃ x13_c : Nat, w11.cell? ((Addr.mk n1 0 none).add 0) = some (.slice x13_p x13_n x13_c) ∧ 
      ixK x13_p x13_n i_10 2 fun a14 =>
      ∃ x15 : Bool, w11.cell? (a14.add 1) = some (.bool x15) ∧ 
      cnd (!x15)
      (∀ (n16 : Nat) (w17 : World), New (.cells #[.int .i64 n_9] 3) w11 n16 w17 → 
        ∃ w18 : World, ∃ r19_p : Option Addr, ∃ r19_n : Nat, ∃ r19_c : Nat, (Builtin.append_ #[49, 49] 49 #[.slice out_8_p out_8_n out_8_c, .slice (some (Addr.mk n16 0 none)) 1 1]).run Try.prog w17 = .ok (.slice r19_p r19_n r19_c) w18 ∧ 
        ∃ x20_p : Option Addr, ∃ x20_n : Nat, ∃ x20_c : Nat, w18.cell? ((Addr.mk n1 0 none).add 0) = some (.slice x20_p x20_n x20_c) ∧ 
        ixK x20_p x20_n i_10 2 fun a21 =>
        ∃ x22_p : Option Addr, ∃ x22_n : Nat, ∃ x22_c : Nat, w18.cell? (a21.add 0) = some (.slice x22_p x22_n x22_c) ∧ 
        ∃ k7, k7 < k6 ∧ I5 r19_p r19_n r19_c (IntKind.i64.wrap ((IntKind.i64.wrap (n_9 + (2 : Int))) + (x22_n : Int))) (IntKind.i64.wrap (i_10 + (1 : Int))) w18 k7)
      (∃ x23_p : Option Addr, ∃ x23_n : Nat, ∃ x23_c : Nat, w11.cell? ((Addr.mk n1 0 none).add 0) = some (.slice x23_p x23_n x23_c) ∧ 
        ixK x23_p x23_n i_10 2 fun a24 =>
        ∃ x25_p : Option Addr, ∃ x25_n : Nat, ∃ x25_c : Nat, w11.cell? (a24.add 0) = some (.slice x25_p x25_n x25_c) ∧ 
        ∃ k7, k7 < k6 ∧ I5 out_8_p out_8_n out_8_c (IntKind.i64.wrap ((IntKind.i64.wrap (n_9 + (2 : Int))) + (x25_n : Int))) (IntKind.i64.wrap (i_10 + (1 : Int))) w11 k7))
    (K (.slice out_8_p out_8_n out_8_c) w11)
theorem fathomref02_Places.eq (a_0_p : Option Addr) (a_0_n : Nat) (a_0_c : Nat) (w : World) (K : Value → World → Prop) : wpF Try.prog Try.f64 (.two .leaf (.two .leaf (.two .leaf (.two (.two .leaf (.one (.loop [(3, 49), (4, 3), (5, 3)] .leaf))) .leaf)))) [.agg #[.slice a_0_p a_0_n a_0_c]] w K = fathomref02_Places.w a_0_p a_0_n a_0_c w K := by kernel_rfl
theorem fathomref02_Places.ok : fnOk Try.prog Try.f64 1 = true := by kernel_rfl
theorem fathomref02_Places.calls {a_0_p : Option Addr} {a_0_n : Nat} {a_0_c : Nat} {w : World} {R : Ending → World → Prop} (h : fathomref02_Places.w a_0_p a_0_n a_0_c w fun v w' => R (.returned v) w') : Calls Try.prog 64 #[.agg #[.slice a_0_p a_0_n a_0_c]] w R :=
  calls_of mixed Try.func64 fathomref02_Places.ok rfl (fun K => fathomref02_Places.eq a_0_p a_0_n a_0_c w K) h

/-! ### fathom/fathomref02.Words: function 65 (named slots 5) -/
def fathomref02_Words.w (a_0_p : Option Addr) (a_0_n : Nat) (a_0_c : Nat) (w : World) (K : Value → World → Prop) : Prop :=
  ∀ (n1 : Nat) (w2 : World), New (.cells #[.slice a_0_p a_0_n a_0_c] 45) w n1 w2 → 
  ∃ I3 : Int → Int → World → Nat → Prop, (∃ k4, I3 0 0 w2 k4) ∧
  ∀ (n_6 : Int) (i_7 : Int) (w8 : World) (k4 : Nat) (_ : Fr), I3 n_6 i_7 w8 k4 →
  ∃ x9_p : Option Addr, ∃ x9_n : Nat, ∃ x9_c : Nat, w8.cell? ((Addr.mk n1 0 none).add 0) = some (.slice x9_p x9_n x9_c) ∧ 
    cnd (decide (i_7 < (x9_n : Int)))
    (∃ x10_p : Option Addr, ∃ x10_n : Nat, ∃ x10_c : Nat, w8.cell? ((Addr.mk n1 0 none).add 0) = some (.slice x10_p x10_n x10_c) ∧ 
      ixK x10_p x10_n i_7 2 fun a11 =>
      ∃ x12_p : Option Addr, ∃ x12_n : Nat, ∃ x12_c : Nat, w8.cell? (a11.add 0) = some (.slice x12_p x12_n x12_c) ∧ 
      ∃ k5, k5 < k4 ∧ I3 (IntKind.i64.wrap ((IntKind.i64.wrap (n_6 + (2 : Int))) + (x12_n : Int))) (IntKind.i64.wrap (i_7 + (1 : Int))) w8 k5)
    (K (.int .i64 n_6) w8)
theorem fathomref02_Words.eq (a_0_p : Option Addr) (a_0_n : Nat) (a_0_c : Nat) (w : World) (K : Value → World → Prop) : wpF Try.prog Try.f65 (.two .leaf (.two .leaf (.two (.two .leaf (.one (.loop [(3, 3), (4, 3)] .leaf))) .leaf))) [.agg #[.slice a_0_p a_0_n a_0_c]] w K = fathomref02_Words.w a_0_p a_0_n a_0_c w K := by kernel_rfl
theorem fathomref02_Words.ok : fnOk Try.prog Try.f65 1 = true := by kernel_rfl
theorem fathomref02_Words.calls {a_0_p : Option Addr} {a_0_n : Nat} {a_0_c : Nat} {w : World} {R : Ending → World → Prop} (h : fathomref02_Words.w a_0_p a_0_n a_0_c w fun v w' => R (.returned v) w') : Calls Try.prog 65 #[.agg #[.slice a_0_p a_0_n a_0_c]] w R :=
  calls_of mixed Try.func65 fathomref02_Words.ok rfl (fun K => fathomref02_Words.eq a_0_p a_0_n a_0_c w K) h

/-! ### fathom/fathomref02.Waste: function 66 (named slots 5) -/
def fathomref02_Waste.w (a_0_p : Option Addr) (a_0_n : Nat) (a_0_c : Nat) (w : World) (K : Value → World → Prop) : Prop :=
  ∀ (n1 : Nat) (w2 : World), New (.cells #[.slice a_0_p a_0_n a_0_c] 45) w n1 w2 → 
  ∃ I3 : Int → Int → World → Nat → Prop, (∃ k4, I3 0 0 w2 k4) ∧
  ∀ (n_6 : Int) (i_7 : Int) (w8 : World) (k4 : Nat) (_ : Fr), I3 n_6 i_7 w8 k4 →
  ∃ x9_p : Option Addr, ∃ x9_n : Nat, ∃ x9_c : Nat, w8.cell? ((Addr.mk n1 0 none).add 0) = some (.slice x9_p x9_n x9_c) ∧ 
    cnd (decide (i_7 < (x9_n : Int)))
    (∃ x10_p : Option Addr, ∃ x10_n : Nat, ∃ x10_c : Nat, w8.cell? ((Addr.mk n1 0 none).add 0) = some (.slice x10_p x10_n x10_c) ∧ 
      ixK x10_p x10_n i_7 2 fun a11 =>
      ∃ x12 : Bool, w8.cell? (a11.add 1) = some (.bool x12) ∧ 
      cnd x12
      (∃ x13_p : Option Addr, ∃ x13_n : Nat, ∃ x13_c : Nat, w8.cell? ((Addr.mk n1 0 none).add 0) = some (.slice x13_p x13_n x13_c) ∧ 
        ixK x13_p x13_n i_7 2 fun a14 =>
        ∃ x15_p : Option Addr, ∃ x15_n : Nat, ∃ x15_c : Nat, w8.cell? (a14.add 0) = some (.slice x15_p x15_n x15_c) ∧ 
        ∃ k5, k5 < k4 ∧ I3 (IntKind.i64.wrap ((IntKind.i64.wrap (n_6 + (2 : Int))) + (x15_n : Int))) (IntKind.i64.wrap (i_7 + (1 : Int))) w8 k5)
      (∃ k5, k5 < k4 ∧ I3 n_6 (IntKind.i64.wrap (i_7 + (1 : Int))) w8 k5))
    (K (.int .i64 n_6) w8)
theorem fathomref02_Waste.eq (a_0_p : Option Addr) (a_0_n : Nat) (a_0_c : Nat) (w : World) (K : Value → World → Prop) : wpF Try.prog Try.f66 (.two .leaf (.two .leaf (.two (.two .leaf (.one (.loop [(3, 3), (4, 3)] .leaf))) .leaf))) [.agg #[.slice a_0_p a_0_n a_0_c]] w K = fathomref02_Waste.w a_0_p a_0_n a_0_c w K := by kernel_rfl
theorem fathomref02_Waste.ok : fnOk Try.prog Try.f66 1 = true := by kernel_rfl
theorem fathomref02_Waste.calls {a_0_p : Option Addr} {a_0_n : Nat} {a_0_c : Nat} {w : World} {R : Ending → World → Prop} (h : fathomref02_Waste.w a_0_p a_0_n a_0_c w fun v w' => R (.returned v) w') : Calls Try.prog 66 #[.agg #[.slice a_0_p a_0_n a_0_c]] w R :=
  calls_of mixed Try.func66 fathomref02_Waste.ok rfl (fun K => fathomref02_Waste.eq a_0_p a_0_n a_0_c w K) h

/-! ### (*fathom/arena.Arena).has: function 67 (named slots 5) -/
def arena_Arena_has.w (a_ : Option Addr) (at_ : Int) (w : World) (K : Value → World → Prop) : Prop :=
  cnd (!a_.isNone)
  (∃ a1 : Addr, a_ = some a1 ∧ ∃ x2 : Option Nat, w.cell? (a1.add 2) = some (.map x2) ∧ 
  ∃ w3 : World, ∃ r4 : Bool, (Instr.lookup 62 (.map x2) (.int .i64 at_) false).run Try.prog w = .ok (.bool r4) w3 ∧ 
  K (.bool r4) w3)
  (K (.bool false) w)
theorem arena_Arena_has.eq (a_ : Option Addr) (at_ : Int) (w : World) (K : Value → World → Prop) : wpF Try.prog Try.f67 .leaf [.pointer a_, .int .i64 at_] w K = arena_Arena_has.w a_ at_ w K := by kernel_rfl
theorem arena_Arena_has.ok : fnOk Try.prog Try.f67 2 = true := by kernel_rfl
theorem arena_Arena_has.calls {a_ : Option Addr} {at_ : Int} {w : World} {R : Ending → World → Prop} (h : arena_Arena_has.w a_ at_ w fun v w' => R (.returned v) w') : Calls Try.prog 67 #[.pointer a_, .int .i64 at_] w R :=
  calls_of mixed Try.func67 arena_Arena_has.ok rfl (fun K => arena_Arena_has.eq a_ at_ w K) h

/-! ### (*fathom/arena.Arena).lits: function 68 (named slots 6) -/
def arena_Arena_lits.w (a_ : Option Addr) (at_ : Int) (w : World) (K : Value → World → Prop) : Prop :=
  ∃ a1 : Addr, a_ = some a1 ∧ ∃ x2_p : Option Addr, ∃ x2_n : Nat, ∃ x2_c : Nat, w.cell? (a1.add 1) = some (.slice x2_p x2_n x2_c) ∧ 
  ixK x2_p x2_n at_ 1 fun a3 =>
  ∃ x4 : Int, w.cell? a3 = some (.int .i64 x4) ∧ 
  ∃ a5 : Addr, a_ = some a5 ∧ ∃ x6_p : Option Addr, ∃ x6_n : Nat, ∃ x6_c : Nat, w.cell? (a5.add 1) = some (.slice x6_p x6_n x6_c) ∧ 
  slK x6_p x6_n x6_c 1 (some (IntKind.i64.wrap (at_ + (2 : Int)))) (some (IntKind.i64.wrap ((IntKind.i64.wrap (at_ + (2 : Int))) + x4))) (some (IntKind.i64.wrap ((IntKind.i64.wrap (at_ + (2 : Int))) + x4))) fun s7_p s7_n s7_c =>
  K (.slice s7_p s7_n s7_c) w
theorem arena_Arena_lits.eq (a_ : Option Addr) (at_ : Int) (w : World) (K : Value → World → Prop) : wpF Try.prog Try.f68 .leaf [.pointer a_, .int .i64 at_] w K = arena_Arena_lits.w a_ at_ w K := by kernel_rfl
theorem arena_Arena_lits.ok : fnOk Try.prog Try.f68 2 = true := by kernel_rfl
theorem arena_Arena_lits.calls {a_ : Option Addr} {at_ : Int} {w : World} {R : Ending → World → Prop} (h : arena_Arena_lits.w a_ at_ w fun v w' => R (.returned v) w') : Calls Try.prog 68 #[.pointer a_, .int .i64 at_] w R :=
  calls_of mixed Try.func68 arena_Arena_lits.ok rfl (fun K => arena_Arena_lits.eq a_ at_ w K) h

/-! ### fathom/fathomref02.at: function 69 (named slots 7) -/
def fathomref02_at.w (a_0_p : Option Addr) (a_0_n : Nat) (a_0_c : Nat) (place_ : Int) (w : World) (K : Value → World → Prop) : Prop :=
  ∀ (n1 : Nat) (w2 : World), New (.cells #[.slice a_0_p a_0_n a_0_c] 45) w n1 w2 → 
  ∃ I3 : Int → Int → World → Nat → Prop, (∃ k4, I3 0 0 w2 k4) ∧
  ∀ (n_6 : Int) (i_7 : Int) (w8 : World) (k4 : Nat) (_ : Fr), I3 n_6 i_7 w8 k4 →
  ∃ x9_p : Option Addr, ∃ x9_n : Nat, ∃ x9_c : Nat, w8.cell? ((Addr.mk n1 0 none).add 0) = some (.slice x9_p x9_n x9_c) ∧ 
    cnd (decide (i_7 < (x9_n : Int)))
    (cnd (n_6 == place_)
      (∃ x10_p : Option Addr, ∃ x10_n : Nat, ∃ x10_c : Nat, w8.cell? ((Addr.mk n1 0 none).add 0) = some (.slice x10_p x10_n x10_c) ∧ 
      ixK x10_p x10_n i_7 2 fun a11 =>
      ∃ x12 : Bool, w8.cell? (a11.add 1) = some (.bool x12) ∧ 
      cnd (!x12)
      (K (.int .i64 i_7) w8)
      (∃ x13_p : Option Addr, ∃ x13_n : Nat, ∃ x13_c : Nat, w8.cell? ((Addr.mk n1 0 none).add 0) = some (.slice x13_p x13_n x13_c) ∧ 
        ixK x13_p x13_n i_7 2 fun a14 =>
        ∃ x15_p : Option Addr, ∃ x15_n : Nat, ∃ x15_c : Nat, w8.cell? (a14.add 0) = some (.slice x15_p x15_n x15_c) ∧ 
        ∃ k5, k5 < k4 ∧ I3 (IntKind.i64.wrap ((IntKind.i64.wrap (n_6 + (2 : Int))) + (x15_n : Int))) (IntKind.i64.wrap (i_7 + (1 : Int))) w8 k5))
      (∃ x16_p : Option Addr, ∃ x16_n : Nat, ∃ x16_c : Nat, w8.cell? ((Addr.mk n1 0 none).add 0) = some (.slice x16_p x16_n x16_c) ∧ 
      ixK x16_p x16_n i_7 2 fun a17 =>
      ∃ x18_p : Option Addr, ∃ x18_n : Nat, ∃ x18_c : Nat, w8.cell? (a17.add 0) = some (.slice x18_p x18_n x18_c) ∧ 
      ∃ k5, k5 < k4 ∧ I3 (IntKind.i64.wrap ((IntKind.i64.wrap (n_6 + (2 : Int))) + (x18_n : Int))) (IntKind.i64.wrap (i_7 + (1 : Int))) w8 k5))
    (K (.int .i64 (-1)) w8)
theorem fathomref02_at.eq (a_0_p : Option Addr) (a_0_n : Nat) (a_0_c : Nat) (place_ : Int) (w : World) (K : Value → World → Prop) : wpF Try.prog Try.f69 (.two .leaf (.two .leaf (.two (.two .leaf (.one (.loop [(5, 3), (6, 3)] .leaf))) .leaf))) [.agg #[.slice a_0_p a_0_n a_0_c], .int .i64 place_] w K = fathomref02_at.w a_0_p a_0_n a_0_c place_ w K := by kernel_rfl
theorem fathomref02_at.ok : fnOk Try.prog Try.f69 2 = true := by kernel_rfl
theorem fathomref02_at.calls {a_0_p : Option Addr} {a_0_n : Nat} {a_0_c : Nat} {place_ : Int} {w : World} {R : Ending → World → Prop} (h : fathomref02_at.w a_0_p a_0_n a_0_c place_ w fun v w' => R (.returned v) w') : Calls Try.prog 69 #[.agg #[.slice a_0_p a_0_n a_0_c], .int .i64 place_] w R :=
  calls_of mixed Try.func69 fathomref02_at.ok rfl (fun K => fathomref02_at.eq a_0_p a_0_n a_0_c place_ w K) h

/-! ### fathom/lit.Check: function 70 (named slots 3) -/
def lit_Check.w (c__p : Option Addr) (c__n : Nat) (c__c : Nat) (w : World) (K : Value → World → Prop) : Prop :=
  cnd (decide ((c__n : Int) > (4096 : Int)))
  (K (.int .i64 1) w)
  (Calls Try.prog 83 #[.slice c__p c__n c__c, .func (.func 84) #[] #[]] w fun e w1 => ∃ r2 : Bool, e = .returned (.bool r2) ∧ 
  cnd r2
  (K (.int .i64 1) w1)
  (K (.int .i64 0) w1))
theorem lit_Check.eq (c__p : Option Addr) (c__n : Nat) (c__c : Nat) (w : World) (K : Value → World → Prop) : wpF Try.prog Try.f70 .leaf [.slice c__p c__n c__c] w K = lit_Check.w c__p c__n c__c w K := by kernel_rfl
theorem lit_Check.ok : fnOk Try.prog Try.f70 1 = true := by kernel_rfl
theorem lit_Check.calls {c__p : Option Addr} {c__n : Nat} {c__c : Nat} {w : World} {R : Ending → World → Prop} (h : lit_Check.w c__p c__n c__c w fun v w' => R (.returned v) w') : Calls Try.prog 70 #[.slice c__p c__n c__c] w R :=
  calls_of mixed Try.func70 lit_Check.ok rfl (fun K => lit_Check.eq c__p c__n c__c w K) h

/-! ### fathom/fathomref01.May: function 82 (named slots 4) -/
def fathomref01_May.w (c__p : Option Addr) (c__n : Nat) (c__c : Nat) (w : World) (K : Value → World → Prop) : Prop :=
  ∃ I1 : Int → World → Nat → Prop, (∃ k2, I1 0 w k2) ∧
  ∀ (i_4 : Int) (w5 : World) (k2 : Nat) (_ : Fr), I1 i_4 w5 k2 →
  cnd (decide (i_4 < (c__n : Int)))
    (ixK c__p c__n i_4 1 fun a6 =>
      ∃ x7 : Int, w5.cell? a6 = some (.int .i64 x7) ∧ 
      Calls Try.prog 87 #[.int .i64 x7] w5 fun e w8 => ∃ r9 : Bool, e = .returned (.bool r9) ∧ 
      cnd (!r9)
      (K (.bool false) w8)
      (∃ k3, k3 < k2 ∧ I1 (IntKind.i64.wrap (i_4 + (1 : Int))) w8 k3))
    (K (.bool (decide ((c__n : Int) ≤ (4096 : Int)))) w5)
theorem fathomref01_May.eq (c__p : Option Addr) (c__n : Nat) (c__c : Nat) (w : World) (K : Value → World → Prop) : wpF Try.prog Try.f82 (.two .leaf (.two (.two .leaf (.one (.loop [(3, 3)] .leaf))) .leaf)) [.slice c__p c__n c__c] w K = fathomref01_May.w c__p c__n c__c w K := by kernel_rfl
theorem fathomref01_May.ok : fnOk Try.prog Try.f82 1 = true := by kernel_rfl
theorem fathomref01_May.calls {c__p : Option Addr} {c__n : Nat} {c__c : Nat} {w : World} {R : Ending → World → Prop} (h : fathomref01_May.w c__p c__n c__c w fun v w' => R (.returned v) w') : Calls Try.prog 82 #[.slice c__p c__n c__c] w R :=
  calls_of mixed Try.func82 fathomref01_May.ok rfl (fun K => fathomref01_May.eq c__p c__n c__c w K) h

/-! ### slices.ContainsFunc[[]int,int]: function 83 (named slots 5) -/
def slices_ContainsFunc_int_int.w (s__p : Option Addr) (s__n : Nat) (s__c : Nat) (f_f : FuncId) (f_v : Array Value) (w : World) (K : Value → World → Prop) : Prop :=
  Calls Try.prog 88 #[.slice s__p s__n s__c, .func (.func f_f) #[] f_v] w fun e w1 => ∃ r2 : Int, e = .returned (.int .i64 r2) ∧ 
  K (.bool (decide (r2 ≥ (0 : Int)))) w1
theorem slices_ContainsFunc_int_int.eq (s__p : Option Addr) (s__n : Nat) (s__c : Nat) (f_f : FuncId) (f_v : Array Value) (w : World) (K : Value → World → Prop) : wpF Try.prog Try.f83 .leaf [.slice s__p s__n s__c, .func (.func f_f) #[] f_v] w K = slices_ContainsFunc_int_int.w s__p s__n s__c f_f f_v w K := by kernel_rfl
theorem slices_ContainsFunc_int_int.ok : fnOk Try.prog Try.f83 2 = true := by kernel_rfl
theorem slices_ContainsFunc_int_int.calls {s__p : Option Addr} {s__n : Nat} {s__c : Nat} {f_f : FuncId} {f_v : Array Value} {w : World} {R : Ending → World → Prop} (h : slices_ContainsFunc_int_int.w s__p s__n s__c f_f f_v w fun v w' => R (.returned v) w') : Calls Try.prog 83 #[.slice s__p s__n s__c, .func (.func f_f) #[] f_v] w R :=
  calls_of mixed Try.func83 slices_ContainsFunc_int_int.ok rfl (fun K => slices_ContainsFunc_int_int.eq s__p s__n s__c f_f f_v w K) h

/-! ### fathom/lit.Check$1: function 84 (named slots 3) -/
def lit_Check_1.w (l_ : Int) (w : World) (K : Value → World → Prop) : Prop :=
  Calls Try.prog 85 #[.int .i64 l_] w fun e w1 => ∃ r2 : Bool, e = .returned (.bool r2) ∧ 
  K (.bool (!r2)) w1
theorem lit_Check_1.eq (l_ : Int) (w : World) (K : Value → World → Prop) : wpF Try.prog Try.f84 .leaf [.int .i64 l_] w K = lit_Check_1.w l_ w K := by kernel_rfl
theorem lit_Check_1.ok : fnOk Try.prog Try.f84 1 = true := by kernel_rfl
theorem lit_Check_1.calls {l_ : Int} {w : World} {R : Ending → World → Prop} (h : lit_Check_1.w l_ w fun v w' => R (.returned v) w') : Calls Try.prog 84 #[.int .i64 l_] w R :=
  calls_of mixed Try.func84 lit_Check_1.ok rfl (fun K => lit_Check_1.eq l_ w K) h

/-! ### fathom/lit.is: function 85 (named slots 3) -/
def lit_is.w (l_ : Int) (w : World) (K : Value → World → Prop) : Prop :=
  cnd (l_ != (0 : Int))
  (cnd (decide (l_ ≥ (-1048576)))
  (K (.bool (decide (l_ ≤ (1048576 : Int)))) w)
  (K (.bool false) w))
  (K (.bool false) w)
theorem lit_is.eq (l_ : Int) (w : World) (K : Value → World → Prop) : wpF Try.prog Try.f85 .leaf [.int .i64 l_] w K = lit_is.w l_ w K := by kernel_rfl
theorem lit_is.ok : fnOk Try.prog Try.f85 1 = true := by kernel_rfl
theorem lit_is.calls {l_ : Int} {w : World} {R : Ending → World → Prop} (h : lit_is.w l_ w fun v w' => R (.returned v) w') : Calls Try.prog 85 #[.int .i64 l_] w R :=
  calls_of mixed Try.func85 lit_is.ok rfl (fun K => lit_is.eq l_ w K) h

/-! ### fathom/fathomref01.Lit: function 87 (named slots 3) -/
def fathomref01_Lit.w (l_ : Int) (w : World) (K : Value → World → Prop) : Prop :=
  cnd (l_ != (0 : Int))
  (cnd (decide (l_ ≥ (-1048576)))
  (K (.bool (decide (l_ ≤ (1048576 : Int)))) w)
  (K (.bool false) w))
  (K (.bool false) w)
theorem fathomref01_Lit.eq (l_ : Int) (w : World) (K : Value → World → Prop) : wpF Try.prog Try.f87 .leaf [.int .i64 l_] w K = fathomref01_Lit.w l_ w K := by kernel_rfl
theorem fathomref01_Lit.ok : fnOk Try.prog Try.f87 1 = true := by kernel_rfl
theorem fathomref01_Lit.calls {l_ : Int} {w : World} {R : Ending → World → Prop} (h : fathomref01_Lit.w l_ w fun v w' => R (.returned v) w') : Calls Try.prog 87 #[.int .i64 l_] w R :=
  calls_of mixed Try.func87 fathomref01_Lit.ok rfl (fun K => fathomref01_Lit.eq l_ w K) h

/-! ### slices.IndexFunc[[]int,int]: function 88 (named slots 5) -/
def slices_IndexFunc_int_int.w (s__p : Option Addr) (s__n : Nat) (s__c : Nat) (f_f : FuncId) (f_v : Array Value) (w : World) (K : Value → World → Prop) : Prop :=
  ∃ I1 : Int → World → Nat → Prop, (∃ k2, I1 0 w k2) ∧
  ∀ (v4 : Int) (w5 : World) (k2 : Nat) (_ : Fr), I1 v4 w5 k2 →
  cnd (decide (v4 < (s__n : Int)))
    (ixK s__p s__n v4 1 fun a6 =>
      ∃ x7 : Int, w5.cell? a6 = some (.int .i64 x7) ∧ 
      cnd (entB Try.prog f_f) (Calls Try.prog f_f (#[] ++ #[.int .i64 x7] ++ f_v) w5 fun e w8 => ∃ r9 : Bool, e = .returned (.bool r9) ∧ 
      cnd r9
      (K (.int .i64 v4) w8)
      (∃ k3, k3 < k2 ∧ I1 (IntKind.i64.wrap (v4 + (1 : Int))) w8 k3)) False)
    (K (.int .i64 (-1)) w5)
theorem slices_IndexFunc_int_int.eq (s__p : Option Addr) (s__n : Nat) (s__c : Nat) (f_f : FuncId) (f_v : Array Value) (w : World) (K : Value → World → Prop) : wpF Try.prog Try.f88 (.two .leaf (.two (.two .leaf (.one (.loop [(8, 3)] .leaf))) .leaf)) [.slice s__p s__n s__c, .func (.func f_f) #[] f_v] w K = slices_IndexFunc_int_int.w s__p s__n s__c f_f f_v w K := by kernel_rfl
theorem slices_IndexFunc_int_int.ok : fnOk Try.prog Try.f88 2 = true := by kernel_rfl
theorem slices_IndexFunc_int_int.calls {s__p : Option Addr} {s__n : Nat} {s__c : Nat} {f_f : FuncId} {f_v : Array Value} {w : World} {R : Ending → World → Prop} (h : slices_IndexFunc_int_int.w s__p s__n s__c f_f f_v w fun v w' => R (.returned v) w') : Calls Try.prog 88 #[.slice s__p s__n s__c, .func (.func f_f) #[] f_v] w R :=
  calls_of mixed Try.func88 slices_IndexFunc_int_int.ok rfl (fun K => slices_IndexFunc_int_int.eq s__p s__n s__c f_f f_v w K) h

end Go.Proofs.Ytamckcamloelbaa.W
