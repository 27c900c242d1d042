/- The functions that the statements reach, printed as what the frame asks of them, each checked by the kernel against the loaded text. -/
import Derived.Test.YtamckcamloelbaaProg
import Derived.Test.YtamckcamloelbaaFwSound
namespace Go.Proofs.Ytamckcamloelbaa.W
open Go Go.Fw Go.Proofs
set_option linter.unusedVariables false

theorem mixed : Try.prog.follows .mixedOrders = true := by kernel_rfl

abbrev fathomlaw10_LubyNumbers.id : FuncId := 3
abbrev fathomlaw10_LubyPowers.id : FuncId := 4
abbrev fathomlaw10_LubyTicks.id : FuncId := 5
abbrev fathomlaw10_LubyPaces.id : FuncId := 6
abbrev fathomlaw02_ArenaActs.id : FuncId := 7
abbrev fathomlaw02_ArenaGets.id : FuncId := 8
abbrev fathomlaw02_ArenaPacks.id : FuncId := 9
abbrev fathomlaw02_ArenaNobody.id : FuncId := 10
abbrev fathomlaw09_HeapOrders.id : FuncId := 11
abbrev fathomlaw09_HeapActs.id : FuncId := 12
abbrev fathomlaw09_HeapScales.id : FuncId := 13
abbrev fathomlaw09_HeapNew.id : FuncId := 14
abbrev luby_Number.id : FuncId := 15
abbrev fathomref10_Number.id : FuncId := 16
abbrev luby_Sum.id : FuncId := 17
abbrev fathomlaw10_awake.id : FuncId := 18
abbrev fathomref10_Sum.id : FuncId := 19
abbrev luby_Tick.id : FuncId := 20
abbrev fathomref10_May.id : FuncId := 21
abbrev luby_Check.id : FuncId := 22
abbrev luby_Until.id : FuncId := 23
abbrev fathomref10_Tick.id : FuncId := 24
abbrev luby_Start.id : FuncId := 25
abbrev fathomlaw02_light.id : FuncId := 26
abbrev fathomlaw02_awake.id : FuncId := 27
abbrev fathomlaw02_Play.id : FuncId := 28
abbrev fathomlaw02_like.id : FuncId := 29
abbrev arena_Arena_Get.id : FuncId := 30
abbrev fathomref02_Get.id : FuncId := 31
abbrev fathomref01_Ints.id : FuncId := 32
abbrev arena_Arena_Count.id : FuncId := 33
abbrev arena_Arena_Pack.id : FuncId := 34
abbrev arena_Arena_Waste.id : FuncId := 35
abbrev arena_Arena_Add.id : FuncId := 36
abbrev arena_Arena_Drop.id : FuncId := 37
abbrev arena_Arena_Swap.id : FuncId := 38
abbrev arena_Arena_Places.id : FuncId := 39
abbrev arena_Arena_Words.id : FuncId := 40
abbrev fathomlaw09_play.id : FuncId := 41
abbrev fathomref09_Len.id : FuncId := 42
abbrev heap_Heap_Pop.id : FuncId := 43
abbrev fathomref09_Set.id : FuncId := 44
abbrev heap_Heap_Len.id : FuncId := 45
abbrev fathomlaw09_awake.id : FuncId := 46
abbrev fathomlaw09_like.id : FuncId := 47
abbrev heap_Heap_Score.id : FuncId := 48
abbrev heap_Heap_Decay.id : FuncId := 49
abbrev fathomref09_Decay.id : FuncId := 50
abbrev heap_Heap_Step.id : FuncId := 51
abbrev heap_New.id : FuncId := 52
abbrev heap_Heap_Has.id : FuncId := 53
abbrev heap_Heap_Best.id : FuncId := 54
abbrev heap_Heap_Push.id : FuncId := 55
abbrev heap_Heap_Bump.id : FuncId := 56
abbrev luby_number.id : FuncId := 57
abbrev bits_Len.id : FuncId := 58
abbrev arena_New.id : FuncId := 59
abbrev fathomref02_Add.id : FuncId := 60
abbrev fathomref02_Drop.id : FuncId := 61
abbrev fathomref02_Swap.id : FuncId := 62
abbrev fathomref02_Pack.id : FuncId := 63
abbrev fathomref02_Places.id : FuncId := 64
abbrev fathomref02_Words.id : FuncId := 65
abbrev fathomref02_Waste.id : FuncId := 66
abbrev arena_Arena_has.id : FuncId := 67
abbrev arena_Arena_lits.id : FuncId := 68
abbrev fathomref02_at.id : FuncId := 69
abbrev lit_Check.id : FuncId := 70
abbrev fathomref09_New.id : FuncId := 71
abbrev fathomref09_Bump.id : FuncId := 72
abbrev fathomref09_Best.id : FuncId := 73
abbrev heap_Heap_put.id : FuncId := 74
abbrev heap_Heap_fall.id : FuncId := 75
abbrev heap_Heap_is.id : FuncId := 76
abbrev heap_Heap_scale.id : FuncId := 77
abbrev fathomref09_scaled.id : FuncId := 78
abbrev heap_Heap_up.id : FuncId := 79
abbrev bits_Len32.id : FuncId := 80
abbrev bits_Len64.id : FuncId := 81
abbrev fathomref01_May.id : FuncId := 82
abbrev slices_ContainsFunc_int_int.id : FuncId := 83
abbrev lit_Check_1.id : FuncId := 84
abbrev lit_is.id : FuncId := 85
abbrev heap_Heap_better.id : FuncId := 86
abbrev fathomref01_Lit.id : FuncId := 87
abbrev slices_IndexFunc_int_int.id : FuncId := 88
abbrev ty_int64 : TypeId := 2
theorem ty_int64.und : Try.prog.underlying 2 = some (.int .i64) := by kernel_rfl
theorem ty_int64.info : (Try.prog.info? 2).map (fun i => (i.zero, i.size, i.bytes)) = some (some (.int .i64 0), 1, 8) := by kernel_rfl
abbrev ty_int : TypeId := 3
theorem ty_int.und : Try.prog.underlying 3 = some (.int .i64) := by kernel_rfl
theorem ty_int.info : (Try.prog.info? 3).map (fun i => (i.zero, i.size, i.bytes)) = some (some (.int .i64 0), 1, 8) := by kernel_rfl
abbrev ty_bool : TypeId := 4
theorem ty_bool.und : Try.prog.underlying 4 = some .bool := by kernel_rfl
theorem ty_bool.info : (Try.prog.info? 4).map (fun i => (i.zero, i.size, i.bytes)) = some (some (.bool false), 1, 1) := by kernel_rfl
abbrev ty_uint8 : TypeId := 5
theorem ty_uint8.und : Try.prog.underlying 5 = some (.int .u8) := by kernel_rfl
theorem ty_uint8.info : (Try.prog.info? 5).map (fun i => (i.zero, i.size, i.bytes)) = some (some (.int .u8 0), 1, 1) := by kernel_rfl
abbrev ty_abi_BoundsErrorCode : TypeId := 6
theorem ty_abi_BoundsErrorCode.und : Try.prog.underlying 6 = some (.int .u8) := by kernel_rfl
theorem ty_abi_BoundsErrorCode.info : (Try.prog.info? 6).map (fun i => (i.zero, i.size, i.bytes)) = some (some (.int .u8 0), 1, 1) := by kernel_rfl
abbrev ty_runtime_boundsError : TypeId := 8
theorem ty_runtime_boundsError.info : (Try.prog.info? 8).map (fun i => (i.zero, i.size, i.bytes)) = some (some (.agg #[.int .i64 0, .int .i64 0, .bool false, .int .u8 0]), 4, 24) := by kernel_rfl
abbrev ty_uintptr : TypeId := 12
theorem ty_uintptr.und : Try.prog.underlying 12 = some (.int .u64) := by kernel_rfl
theorem ty_uintptr.info : (Try.prog.info? 12).map (fun i => (i.zero, i.size, i.bytes)) = some (some (.int .u64 0), 1, 8) := by kernel_rfl
abbrev ty_runtime_errorAddressString : TypeId := 14
theorem ty_runtime_errorAddressString.info : (Try.prog.info? 14).map (fun i => (i.zero, i.size, i.bytes)) = some (some (.agg #[.string (ByteArray.mk #[]), .int .u64 0]), 2, 24) := by kernel_rfl
abbrev ty_p_runtime_TypeAssertionError : TypeId := 15
theorem ty_p_runtime_TypeAssertionError.info : (Try.prog.info? 15).map (fun i => (i.zero, i.size, i.bytes)) = some (some (.pointer none), 1, 8) := by kernel_rfl
abbrev ty_p_runtime_PanicNilError : TypeId := 16
theorem ty_p_runtime_PanicNilError.info : (Try.prog.info? 16).map (fun i => (i.zero, i.size, i.bytes)) = some (some (.pointer none), 1, 8) := by kernel_rfl
abbrev ty_p_abi_Type : TypeId := 17
theorem ty_p_abi_Type.info : (Try.prog.info? 17).map (fun i => (i.zero, i.size, i.bytes)) = some (some (.pointer none), 1, 8) := by kernel_rfl
abbrev ty_maps_unhashableTypeError : TypeId := 19
theorem ty_maps_unhashableTypeError.info : (Try.prog.info? 19).map (fun i => (i.zero, i.size, i.bytes)) = some (some (.agg #[.pointer none]), 1, 8) := by kernel_rfl
abbrev ty_int32 : TypeId := 21
theorem ty_int32.und : Try.prog.underlying 21 = some (.int .i32) := by kernel_rfl
theorem ty_int32.info : (Try.prog.info? 21).map (fun i => (i.zero, i.size, i.bytes)) = some (some (.int .i32 0), 1, 4) := by kernel_rfl
abbrev ty_api_Errno : TypeId := 22
theorem ty_api_Errno.und : Try.prog.underlying 22 = some (.int .i64) := by kernel_rfl
theorem ty_api_Errno.info : (Try.prog.info? 22).map (fun i => (i.zero, i.size, i.bytes)) = some (some (.int .i64 0), 1, 8) := by kernel_rfl
abbrev ty_api_Pace : TypeId := 30
theorem ty_api_Pace.info : (Try.prog.info? 30).map (fun i => (i.zero, i.size, i.bytes)) = some (some (.agg #[.int .i64 0, .int .i64 0, .int .i64 0]), 3, 24) := by kernel_rfl
abbrev ty_sl_fathomlaw02_Act : TypeId := 40
theorem ty_sl_fathomlaw02_Act.und : Try.prog.underlying 40 = some (.slice 61) := by kernel_rfl
theorem ty_sl_fathomlaw02_Act.info : (Try.prog.info? 40).map (fun i => (i.zero, i.size, i.bytes)) = some (some (.slice none 0 0), 1, 24) := by kernel_rfl
abbrev ty_p_arena_Arena : TypeId := 42
theorem ty_p_arena_Arena.info : (Try.prog.info? 42).map (fun i => (i.zero, i.size, i.bytes)) = some (some (.pointer none), 1, 8) := by kernel_rfl
abbrev ty_sl_fathomref02_Item : TypeId := 43
theorem ty_sl_fathomref02_Item.und : Try.prog.underlying 43 = some (.slice 105) := by kernel_rfl
theorem ty_sl_fathomref02_Item.info : (Try.prog.info? 43).map (fun i => (i.zero, i.size, i.bytes)) = some (some (.slice none 0 0), 1, 24) := by kernel_rfl
abbrev ty_fathomref02_Arena : TypeId := 45
theorem ty_fathomref02_Arena.info : (Try.prog.info? 45).map (fun i => (i.zero, i.size, i.bytes)) = some (some (.agg #[.slice none 0 0]), 1, 24) := by kernel_rfl
abbrev ty_sl_int : TypeId := 49
theorem ty_sl_int.und : Try.prog.underlying 49 = some (.slice 3) := by kernel_rfl
theorem ty_sl_int.info : (Try.prog.info? 49).map (fun i => (i.zero, i.size, i.bytes)) = some (some (.slice none 0 0), 1, 24) := by kernel_rfl
abbrev ty_sl_api_Move : TypeId := 56
theorem ty_sl_api_Move.und : Try.prog.underlying 56 = some (.slice 59) := by kernel_rfl
theorem ty_sl_api_Move.info : (Try.prog.info? 56).map (fun i => (i.zero, i.size, i.bytes)) = some (some (.slice none 0 0), 1, 24) := by kernel_rfl
abbrev ty_api_Move : TypeId := 59
theorem ty_api_Move.info : (Try.prog.info? 59).map (fun i => (i.zero, i.size, i.bytes)) = some (some (.agg #[.int .i64 0, .int .i64 0]), 2, 16) := by kernel_rfl
abbrev ty_fathomlaw02_Act : TypeId := 61
theorem ty_fathomlaw02_Act.info : (Try.prog.info? 61).map (fun i => (i.zero, i.size, i.bytes)) = some (some (.agg #[.int .i64 0, .slice none 0 0, .int .i64 0, .int .i64 0, .int .i64 0]), 5, 56) := by kernel_rfl
abbrev ty_map_int_bool : TypeId := 62
theorem ty_map_int_bool.und : Try.prog.underlying 62 = some (.map 3 4) := by kernel_rfl
theorem ty_map_int_bool.info : (Try.prog.info? 62).map (fun i => (i.zero, i.size, i.bytes)) = some (some (.map none), 1, 8) := by kernel_rfl
abbrev ty_arena_Arena : TypeId := 64
theorem ty_arena_Arena.info : (Try.prog.info? 64).map (fun i => (i.zero, i.size, i.bytes)) = some (some (.agg #[.bool false, .slice none 0 0, .map none, .int .i64 0, .int .i64 0]), 5, 56) := by kernel_rfl
abbrev ty_sl_fathomlaw09_Act : TypeId := 70
theorem ty_sl_fathomlaw09_Act.und : Try.prog.underlying 70 = some (.slice 109) := by kernel_rfl
theorem ty_sl_fathomlaw09_Act.info : (Try.prog.info? 70).map (fun i => (i.zero, i.size, i.bytes)) = some (some (.slice none 0 0), 1, 24) := by kernel_rfl
abbrev ty_p_heap_Heap : TypeId := 71
theorem ty_p_heap_Heap.info : (Try.prog.info? 71).map (fun i => (i.zero, i.size, i.bytes)) = some (some (.pointer none), 1, 8) := by kernel_rfl
abbrev ty_sl_bool : TypeId := 72
theorem ty_sl_bool.und : Try.prog.underlying 72 = some (.slice 4) := by kernel_rfl
theorem ty_sl_bool.info : (Try.prog.info? 72).map (fun i => (i.zero, i.size, i.bytes)) = some (some (.slice none 0 0), 1, 24) := by kernel_rfl
abbrev ty_fathomref09_Heap : TypeId := 74
theorem ty_fathomref09_Heap.info : (Try.prog.info? 74).map (fun i => (i.zero, i.size, i.bytes)) = some (some (.agg #[.slice none 0 0, .slice none 0 0, .int .i64 0]), 3, 56) := by kernel_rfl
abbrev ty_heap_Heap : TypeId := 89
theorem ty_heap_Heap.info : (Try.prog.info? 89).map (fun i => (i.zero, i.size, i.bytes)) = some (some (.agg #[.slice none 0 0, .slice none 0 0, .slice none 0 0, .int .i64 0]), 4, 80) := by kernel_rfl
abbrev ty_uint : TypeId := 91
theorem ty_uint.und : Try.prog.underlying 91 = some (.int .u64) := by kernel_rfl
theorem ty_uint.info : (Try.prog.info? 91).map (fun i => (i.zero, i.size, i.bytes)) = some (some (.int .u64 0), 1, 8) := by kernel_rfl
abbrev ty_fathomref02_Item : TypeId := 105
theorem ty_fathomref02_Item.info : (Try.prog.info? 105).map (fun i => (i.zero, i.size, i.bytes)) = some (some (.agg #[.slice none 0 0, .bool false]), 2, 32) := by kernel_rfl
abbrev ty_fathomlaw09_Act : TypeId := 109
theorem ty_fathomlaw09_Act.info : (Try.prog.info? 109).map (fun i => (i.zero, i.size, i.bytes)) = some (some (.agg #[.int .i64 0, .int .i64 0, .int .i64 0]), 3, 24) := by kernel_rfl
abbrev ty_uint32 : TypeId := 114
theorem ty_uint32.und : Try.prog.underlying 114 = some (.int .u32) := by kernel_rfl
theorem ty_uint32.info : (Try.prog.info? 114).map (fun i => (i.zero, i.size, i.bytes)) = some (some (.int .u32 0), 1, 4) := by kernel_rfl
abbrev ty_uint64 : TypeId := 116
theorem ty_uint64.und : Try.prog.underlying 116 = some (.int .u64) := by kernel_rfl
theorem ty_uint64.info : (Try.prog.info? 116).map (fun i => (i.zero, i.size, i.bytes)) = some (some (.int .u64 0), 1, 8) := by kernel_rfl
abbrev ty_runtime_TypeAssertionError : TypeId := 122
theorem ty_runtime_TypeAssertionError.info : (Try.prog.info? 122).map (fun i => (i.zero, i.size, i.bytes)) = some (some (.agg #[.pointer none, .pointer none, .pointer none, .string (ByteArray.mk #[])]), 4, 40) := by kernel_rfl
abbrev ty_runtime_PanicNilError : TypeId := 125
theorem ty_runtime_PanicNilError.info : (Try.prog.info? 125).map (fun i => (i.zero, i.size, i.bytes)) = some (some (.agg #[]), 0, 0) := by kernel_rfl
abbrev ty_abi_TFlag : TypeId := 126
theorem ty_abi_TFlag.und : Try.prog.underlying 126 = some (.int .u8) := by kernel_rfl
theorem ty_abi_TFlag.info : (Try.prog.info? 126).map (fun i => (i.zero, i.size, i.bytes)) = some (some (.int .u8 0), 1, 1) := by kernel_rfl
abbrev ty_abi_Kind : TypeId := 127
theorem ty_abi_Kind.und : Try.prog.underlying 127 = some (.int .u8) := by kernel_rfl
theorem ty_abi_Kind.info : (Try.prog.info? 127).map (fun i => (i.zero, i.size, i.bytes)) = some (some (.int .u8 0), 1, 1) := by kernel_rfl
abbrev ty_p_uint8 : TypeId := 129
theorem ty_p_uint8.info : (Try.prog.info? 129).map (fun i => (i.zero, i.size, i.bytes)) = some (some (.pointer none), 1, 8) := by kernel_rfl
abbrev ty_abi_NameOff : TypeId := 130
theorem ty_abi_NameOff.und : Try.prog.underlying 130 = some (.int .i32) := by kernel_rfl
theorem ty_abi_NameOff.info : (Try.prog.info? 130).map (fun i => (i.zero, i.size, i.bytes)) = some (some (.int .i32 0), 1, 4) := by kernel_rfl
abbrev ty_abi_TypeOff : TypeId := 131
theorem ty_abi_TypeOff.und : Try.prog.underlying 131 = some (.int .i32) := by kernel_rfl
theorem ty_abi_TypeOff.info : (Try.prog.info? 131).map (fun i => (i.zero, i.size, i.bytes)) = some (some (.int .i32 0), 1, 4) := by kernel_rfl
abbrev ty_abi_Type : TypeId := 133
theorem ty_abi_Type.info : (Try.prog.info? 133).map (fun i => (i.zero, i.size, i.bytes)) = some (some (.agg #[.int .u64 0, .int .u64 0, .int .u32 0, .int .u8 0, .int .u8 0, .int .u8 0, .int .u8 0, .nilFunc, .pointer none, .int .i32 0, .int .i32 0]), 11, 48) := by kernel_rfl
def strtab0 : ByteArray := (ByteArray.mk #[0, 1, 2, 2, 3, 3, 3, 3, 4, 4, 4, 4, 4, 4, 4, 4, 5, 5, 5, 5, 5, 5, 5, 5, 5, 5, 5, 5, 5, 5, 5, 5, 6, 6, 6, 6, 6, 6, 6, 6, 6, 6, 6, 6, 6, 6, 6, 6, 6, 6, 6, 6, 6, 6, 6, 6, 6, 6, 6, 6, 6, 6, 6, 6, 7, 7, 7, 7, 7, 7, 7, 7, 7, 7, 7, 7, 7, 7, 7, 7, 7, 7, 7, 7, 7, 7, 7, 7, 7, 7, 7, 7, 7, 7, 7, 7, 7, 7, 7, 7, 7, 7, 7, 7, 7, 7, 7, 7, 7, 7, 7, 7, 7, 7, 7, 7, 7, 7, 7, 7, 7, 7, 7, 7, 7, 7, 7, 7, 8, 8, 8, 8, 8, 8, 8, 8, 8, 8, 8, 8, 8, 8, 8, 8, 8, 8, 8, 8, 8, 8, 8, 8, 8, 8, 8, 8, 8, 8, 8, 8, 8, 8, 8, 8, 8, 8, 8, 8, 8, 8, 8, 8, 8, 8, 8, 8, 8, 8, 8, 8, 8, 8, 8, 8, 8, 8, 8, 8, 8, 8, 8, 8, 8, 8, 8, 8, 8, 8, 8, 8, 8, 8, 8, 8, 8, 8, 8, 8, 8, 8, 8, 8, 8, 8, 8, 8, 8, 8, 8, 8, 8, 8, 8, 8, 8, 8, 8, 8, 8, 8, 8, 8, 8, 8, 8, 8, 8, 8, 8, 8, 8, 8, 8, 8, 8, 8, 8, 8, 8, 8, 8, 8, 8, 8, 8, 8])

/-! ### fathom/fathomlaw10.LubyNumbers: function 3 (named slots 9) cuts [(3, 48)] -/
def fathomlaw10_LubyNumbers.w (i_ : Int) (n_ : Int) (w : World) (K : Value → World → Prop) : Prop :=
  Calls Try.prog 15 #[.int .i64 i_] w fun e w1 => ∃ r2 : Int, ∃ r3 : Int, e = .returned (.tuple #[.int .i64 r2, .int .i64 r3]) ∧ 
  ∃ J4 : World → Prop, (cnd (decide (i_ < (1 : Int)))
  (cnd (r3 != (1 : Int))
  (K (.bool false) w1)
  (cnd (r2 != (0 : Int))
  (K (.bool false) w1)
  (J4 w1)))
  (cnd (decide (i_ > (1073741824 : Int)))
  (cnd (r3 != (1 : Int))
    (K (.bool false) w1)
    (cnd (r2 != (0 : Int))
    (K (.bool false) w1)
    (J4 w1)))
  (cnd (r3 != (0 : Int))
    (K (.bool false) w1)
    (Calls Try.prog 16 #[.int .i64 i_] w1 fun e w5 => ∃ r6 : Int, e = .returned (.int .i64 r6) ∧ 
    cnd (r2 != r6)
    (K (.bool false) w5)
    (J4 w5))))) ∧
  ∀ (w7 : World) (_ : Fr), J4 w7 → 
  Calls Try.prog 17 #[.int .i64 n_] w7 fun e w8 => ∃ r9 : Int, ∃ r10 : Int, e = .returned (.tuple #[.int .i64 r9, .int .i64 r10]) ∧ 
  cnd (decide (n_ < (0 : Int)))
  (cnd (r10 == (1 : Int))
  (cnd (r9 == (0 : Int))
  (Calls Try.prog 18 #[] w8 fun e w11 => ∃ r12 : Bool, e = .returned (.bool r12) ∧ 
  K (.bool r12) w11)
  (K (.bool false) w8))
  (K (.bool false) w8))
  (cnd (decide (n_ > (1073741824 : Int)))
  (cnd (r10 == (1 : Int))
    (cnd (r9 == (0 : Int))
    (Calls Try.prog 18 #[] w8 fun e w13 => ∃ r14 : Bool, e = .returned (.bool r14) ∧ 
    K (.bool r14) w13)
    (K (.bool false) w8))
    (K (.bool false) w8))
  (cnd (decide (n_ > (3000 : Int)))
    (cnd (r10 == (0 : Int))
      (cnd (decide (r9 ≥ n_))
      (Calls Try.prog 18 #[] w8 fun e w15 => ∃ r16 : Bool, e = .returned (.bool r16) ∧ 
      K (.bool r16) w15)
      (K (.bool false) w8))
      (K (.bool false) w8))
    (cnd (r10 == (0 : Int))
      (Calls Try.prog 19 #[.int .i64 n_] w8 fun e w17 => ∃ r18 : Int, e = .returned (.int .i64 r18) ∧ 
      cnd (r9 == r18)
      (Calls Try.prog 18 #[] w17 fun e w19 => ∃ r20 : Bool, e = .returned (.bool r20) ∧ 
      K (.bool r20) w19)
      (K (.bool false) w17))
      (K (.bool false) w8))))
theorem fathomlaw10_LubyNumbers.eq (i_ : Int) (n_ : Int) (w : World) (K : Value → World → Prop) : wpF Try.prog Try.f3 (.two .leaf (.two .leaf (.cut [] .leaf .leaf))) [.int .i64 i_, .int .i64 n_] w K = fathomlaw10_LubyNumbers.w i_ n_ w K := by kernel_rfl
theorem fathomlaw10_LubyNumbers.ok : fnOk Try.prog Try.f3 2 = true := by kernel_rfl
theorem fathomlaw10_LubyNumbers.calls {i_ : Int} {n_ : Int} {w : World} {R : Ending → World → Prop} (h : fathomlaw10_LubyNumbers.w i_ n_ w fun v w' => R (.returned v) w') : Calls Try.prog 3 #[.int .i64 i_, .int .i64 n_] w R :=
  calls_of mixed Try.func3 fathomlaw10_LubyNumbers.ok rfl (fun K => fathomlaw10_LubyNumbers.eq i_ n_ w K) h

/-! ### fathom/fathomlaw10.LubyPowers: function 4 (named slots 15) -/
def fathomlaw10_LubyPowers.w (k_ : Int) (i_ : Int) (w : World) (K : Value → World → Prop) : Prop :=
  (29 : Int) ≠ 0 ∧ 0 ≤ (IntKind.i64.wrap ((1 : Int) + (IntKind.i64.wrap (k_.tmod (29 : Int))))) ∧ Calls Try.prog 15 #[.int .i64 (IntKind.i64.wrap ((IntKind.i64.wrap ((1 : Int) * 2 ^ (min (IntKind.i64.wrap ((1 : Int) + (IntKind.i64.wrap (k_.tmod (29 : Int))))).toNat (IntKind.bits .i64)))) - (1 : Int)))] w fun e w1 => ∃ r2 : Int, ∃ r3 : Int, e = .returned (.tuple #[.int .i64 r2, .int .i64 r3]) ∧ 
  Calls Try.prog 17 #[.int .i64 (IntKind.i64.wrap ((IntKind.i64.wrap ((1 : Int) * 2 ^ (min (IntKind.i64.wrap ((1 : Int) + (IntKind.i64.wrap (k_.tmod (29 : Int))))).toNat (IntKind.bits .i64)))) - (1 : Int)))] w1 fun e w4 => ∃ r5 : Int, ∃ r6 : Int, e = .returned (.tuple #[.int .i64 r5, .int .i64 r6]) ∧ 
  0 ≤ (IntKind.i64.wrap ((IntKind.i64.wrap ((1 : Int) + (IntKind.i64.wrap (k_.tmod (29 : Int))))) - (1 : Int))) ∧ cnd (r2 != (IntKind.i64.wrap ((1 : Int) * 2 ^ (min (IntKind.i64.wrap ((IntKind.i64.wrap ((1 : Int) + (IntKind.i64.wrap (k_.tmod (29 : Int))))) - (1 : Int))).toNat (IntKind.bits .i64)))))
  (K (.bool false) w4)
  (cnd (r6 != (0 : Int))
  (K (.bool false) w4)
  (0 ≤ (IntKind.i64.wrap ((IntKind.i64.wrap ((1 : Int) + (IntKind.i64.wrap (k_.tmod (29 : Int))))) - (1 : Int))) ∧ cnd (r5 != (IntKind.i64.wrap ((IntKind.i64.wrap ((1 : Int) + (IntKind.i64.wrap (k_.tmod (29 : Int))))) * (IntKind.i64.wrap ((1 : Int) * 2 ^ (min (IntKind.i64.wrap ((IntKind.i64.wrap ((1 : Int) + (IntKind.i64.wrap (k_.tmod (29 : Int))))) - (1 : Int))).toNat (IntKind.bits .i64)))))))
  (K (.bool false) w4)
  (cnd (decide (i_ < (1 : Int)))
    (Calls Try.prog 18 #[] w4 fun e w7 => ∃ r8 : Bool, e = .returned (.bool r8) ∧ 
    K (.bool r8) w7)
    (cnd (decide (i_ > (IntKind.i64.wrap ((IntKind.i64.wrap ((1 : Int) * 2 ^ (min (IntKind.i64.wrap ((1 : Int) + (IntKind.i64.wrap (k_.tmod (29 : Int))))).toNat (IntKind.bits .i64)))) - (1 : Int)))))
    (Calls Try.prog 18 #[] w4 fun e w9 => ∃ r10 : Bool, e = .returned (.bool r10) ∧ 
      K (.bool r10) w9)
    (Calls Try.prog 15 #[.int .i64 i_] w4 fun e w11 => ∃ r12 : Int, ∃ r13 : Int, e = .returned (.tuple #[.int .i64 r12, .int .i64 r13]) ∧ 
      Calls Try.prog 15 #[.int .i64 (IntKind.i64.wrap ((IntKind.i64.wrap ((IntKind.i64.wrap ((1 : Int) * 2 ^ (min (IntKind.i64.wrap ((1 : Int) + (IntKind.i64.wrap (k_.tmod (29 : Int))))).toNat (IntKind.bits .i64)))) - (1 : Int))) + i_))] w11 fun e w14 => ∃ r15 : Int, ∃ r16 : Int, e = .returned (.tuple #[.int .i64 r15, .int .i64 r16]) ∧ 
      cnd (r16 != (0 : Int))
      (K (.bool false) w14)
      (cnd (r15 != r12)
      (K (.bool false) w14)
      (cnd (decide (r12 ≥ (1 : Int)))
        (cnd ((IntKind.i64.wrap ((BitVec.ofInt (IntKind.bits .i64) r12 &&& BitVec.ofInt (IntKind.bits .i64) (IntKind.i64.wrap (r12 - (1 : Int)))).toNat)) == (0 : Int))
        (Calls Try.prog 18 #[] w14 fun e w17 => ∃ r18 : Bool, e = .returned (.bool r18) ∧ 
        K (.bool r18) w17)
        (K (.bool false) w14))
        (K (.bool false) w14))))))))
theorem fathomlaw10_LubyPowers.eq (k_ : Int) (i_ : Int) (w : World) (K : Value → World → Prop) : wpF Try.prog Try.f4 .leaf [.int .u8 k_, .int .i64 i_] w K = fathomlaw10_LubyPowers.w k_ i_ w K := by kernel_rfl
theorem fathomlaw10_LubyPowers.ok : fnOk Try.prog Try.f4 2 = true := by kernel_rfl
theorem fathomlaw10_LubyPowers.calls {k_ : Int} {i_ : Int} {w : World} {R : Ending → World → Prop} (h : fathomlaw10_LubyPowers.w k_ i_ w fun v w' => R (.returned v) w') : Calls Try.prog 4 #[.int .u8 k_, .int .i64 i_] w R :=
  calls_of mixed Try.func4 fathomlaw10_LubyPowers.ok rfl (fun K => fathomlaw10_LubyPowers.eq k_ i_ w K) h

/-! ### fathom/fathomlaw10.LubyTicks: function 5 (named slots 13) -/
def fathomlaw10_LubyTicks.w (p_0 : Int) (p_1 : Int) (p_2 : Int) (n_ : Int) (w : World) (K : Value → World → Prop) : Prop :=
  ∃ x1 : Int, ∃ x2 : Int, ∃ x3 : Int, CellsAt (w.alloc (.cells #[.int .i64 p_0, .int .i64 p_1, .int .i64 p_2] 30)) (Addr.mk w.heap.size 0 none) 0 [.int .i64 x1, .int .i64 x2, .int .i64 x3] ∧ 
  Calls Try.prog 20 #[.agg #[.int .i64 x1, .int .i64 x2, .int .i64 x3]] (w.alloc (.cells #[.int .i64 p_0, .int .i64 p_1, .int .i64 p_2] 30)) fun e w4 => ∃ r5 : Int, ∃ r6 : Int, ∃ r7 : Int, ∃ r8 : Bool, e = .returned (.tuple #[.agg #[.int .i64 r5, .int .i64 r6, .int .i64 r7], .bool r8]) ∧ 
  ∃ w9 : World, StoreAt (Addr.mk w4.heap.size 0 none) 0 [.int .i64 r5, .int .i64 r6, .int .i64 r7] (w4.alloc (.cells #[.int .i64 0, .int .i64 0, .int .i64 0] 30)) w9 ∧ 
  ∃ x10 : Int, ∃ x11 : Int, ∃ x12 : Int, CellsAt w9 (Addr.mk w.heap.size 0 none) 0 [.int .i64 x10, .int .i64 x11, .int .i64 x12] ∧ 
  Calls Try.prog 21 #[.agg #[.int .i64 x10, .int .i64 x11, .int .i64 x12]] w9 fun e w13 => ∃ r14 : Bool, e = .returned (.bool r14) ∧ 
  cnd (!r14)
  (∃ x15 : Int, ∃ x16 : Int, ∃ x17 : Int, CellsAt w13 (Addr.mk w.heap.size 0 none) 0 [.int .i64 x15, .int .i64 x16, .int .i64 x17] ∧ 
    Calls Try.prog 22 #[.agg #[.int .i64 x15, .int .i64 x16, .int .i64 x17]] w13 fun e w18 => ∃ r19 : Int, e = .returned (.int .i64 r19) ∧ 
    cnd (r19 == (1 : Int))
    (∃ x20 : Int, ∃ x21 : Int, ∃ x22 : Int, CellsAt w18 (Addr.mk w4.heap.size 0 none) 0 [.int .i64 x20, .int .i64 x21, .int .i64 x22] ∧ 
    ∃ w23 : World, ∃ r24 : Bool, (do eqGuard .eql 30 (.tmp 25) (.tmp 26) (.agg #[.int .i64 x20, .int .i64 x21, .int .i64 x22]) (.agg #[.int .i64 0, .int .i64 0, .int .i64 0]); binOp .eql 30 (.agg #[.int .i64 x20, .int .i64 x21, .int .i64 x22]) (.agg #[.int .i64 0, .int .i64 0, .int .i64 0])).run Try.prog w18 = .ok (.bool r24) w23 ∧ 
    cnd r24
    (cnd (!r8)
    (∃ x25 : Int, ∃ x26 : Int, ∃ x27 : Int, CellsAt w23 (Addr.mk w.heap.size 0 none) 0 [.int .i64 x25, .int .i64 x26, .int .i64 x27] ∧ 
    Calls Try.prog 23 #[.agg #[.int .i64 x25, .int .i64 x26, .int .i64 x27]] w23 fun e w28 => ∃ r29 : Int, e = .returned (.int .i64 r29) ∧ 
    cnd (r29 == (0 : Int))
    (Calls Try.prog 18 #[] w28 fun e w30 => ∃ r31 : Bool, e = .returned (.bool r31) ∧ 
    K (.bool r31) w30)
    (K (.bool false) w28))
    (K (.bool false) w23))
    (K (.bool false) w23))
    (K (.bool false) w18))
  (∃ x32 : Int, ∃ x33 : Int, ∃ x34 : Int, CellsAt w13.drew (Addr.mk w.heap.size 0 none) 0 [.int .i64 x32, .int .i64 x33, .int .i64 x34] ∧ 
    Calls Try.prog 22 #[.agg #[.int .i64 x32, .int .i64 x33, .int .i64 x34]] w13.drew fun e w35 => ∃ r36 : Int, e = .returned (.int .i64 r36) ∧ 
    cnd (r36 != (0 : Int))
    ((K (.bool false) w35) ∧
  (K (.bool false) w35))
    (∃ x37 : Int, ∃ x38 : Int, ∃ x39 : Int, CellsAt w35 (Addr.mk w.heap.size 0 none) 0 [.int .i64 x37, .int .i64 x38, .int .i64 x39] ∧ 
    (Calls Try.prog 23 #[.agg #[.int .i64 x37, .int .i64 x38, .int .i64 x39]] w35 fun e w40 => ∃ r41 : Int, e = .returned (.int .i64 r41) ∧ 
    ∃ x42 : Int, w40.cell? ((Addr.mk w.heap.size 0 none).add 2) = some (.int .i64 x42) ∧ 
    cnd (r41 != x42)
    (K (.bool false) w40)
    (∃ x43 : Int, ∃ x44 : Int, ∃ x45 : Int, CellsAt w40 (Addr.mk w.heap.size 0 none) 0 [.int .i64 x43, .int .i64 x44, .int .i64 x45] ∧ 
      ∃ w46 : World, StoreAt (Addr.mk w40.heap.size 0 none) 0 [.int .i64 x43, .int .i64 x44, .int .i64 x45] (w40.alloc (.cells #[.int .i64 0, .int .i64 0, .int .i64 0] 30)) w46 ∧ 
      ∃ I47 : Int → World → Nat → Prop, (∃ k48, I47 0 w46 k48) ∧
      ∀ (i_50 : Int) (w51 : World) (k48 : Nat) (_ : Fr), I47 i_50 w51 k48 →
      cnd (decide (i_50 < (IntKind.i64.wrap n_)))
        (∃ x52 : Int, ∃ x53 : Int, ∃ x54 : Int, CellsAt w51 (Addr.mk w.heap.size 0 none) 0 [.int .i64 x52, .int .i64 x53, .int .i64 x54] ∧ 
          Calls Try.prog 20 #[.agg #[.int .i64 x52, .int .i64 x53, .int .i64 x54]] w51 fun e w55 => ∃ r56 : Int, ∃ r57 : Int, ∃ r58 : Int, ∃ r59 : Bool, e = .returned (.tuple #[.agg #[.int .i64 r56, .int .i64 r57, .int .i64 r58], .bool r59]) ∧ 
          ∃ w60 : World, StoreAt (Addr.mk w55.heap.size 0 none) 0 [.int .i64 r56, .int .i64 r57, .int .i64 r58] (w55.alloc (.cells #[.int .i64 0, .int .i64 0, .int .i64 0] 30)) w60 ∧ 
          ∃ x61 : Int, ∃ x62 : Int, ∃ x63 : Int, CellsAt w60 (Addr.mk w40.heap.size 0 none) 0 [.int .i64 x61, .int .i64 x62, .int .i64 x63] ∧ 
          Calls Try.prog 24 #[.agg #[.int .i64 x61, .int .i64 x62, .int .i64 x63]] w60 fun e w64 => ∃ r65 : Int, ∃ r66 : Int, ∃ r67 : Int, ∃ r68 : Bool, e = .returned (.tuple #[.agg #[.int .i64 r65, .int .i64 r66, .int .i64 r67], .bool r68]) ∧ 
          ∃ w69 : World, StoreAt (Addr.mk w64.heap.size 0 none) 0 [.int .i64 r65, .int .i64 r66, .int .i64 r67] (w64.alloc (.cells #[.int .i64 0, .int .i64 0, .int .i64 0] 30)) w69 ∧ 
          ∃ x70 : Int, ∃ x71 : Int, ∃ x72 : Int, CellsAt w69 (Addr.mk w55.heap.size 0 none) 0 [.int .i64 x70, .int .i64 x71, .int .i64 x72] ∧ 
          ∃ x73 : Int, ∃ x74 : Int, ∃ x75 : Int, CellsAt w69 (Addr.mk w64.heap.size 0 none) 0 [.int .i64 x73, .int .i64 x74, .int .i64 x75] ∧ 
          ∃ w76 : World, ∃ r77 : Bool, (do eqGuard .neq 30 (.tmp 68) (.tmp 69) (.agg #[.int .i64 x70, .int .i64 x71, .int .i64 x72]) (.agg #[.int .i64 x73, .int .i64 x74, .int .i64 x75]); binOp .neq 30 (.agg #[.int .i64 x70, .int .i64 x71, .int .i64 x72]) (.agg #[.int .i64 x73, .int .i64 x74, .int .i64 x75])).run Try.prog w69 = .ok (.bool r77) w76 ∧ 
          cnd r77
          (K (.bool false) w76)
          (cnd (!(r59 == r68))
          (K (.bool false) w76)
          (∃ x78 : Int, ∃ x79 : Int, ∃ x80 : Int, CellsAt w76.drew (Addr.mk w55.heap.size 0 none) 0 [.int .i64 x78, .int .i64 x79, .int .i64 x80] ∧ 
            (∃ x81 : Int, ∃ x82 : Int, ∃ x83 : Int, CellsAt w76.drew (Addr.mk w64.heap.size 0 none) 0 [.int .i64 x81, .int .i64 x82, .int .i64 x83] ∧ 
            ∃ w84 : World, StoreAt (Addr.mk w.heap.size 0 none) 0 [.int .i64 x78, .int .i64 x79, .int .i64 x80] w76.drew w84 ∧ 
            ∃ w85 : World, StoreAt (Addr.mk w40.heap.size 0 none) 0 [.int .i64 x81, .int .i64 x82, .int .i64 x83] w84 w85 ∧ 
            ∃ k49, k49 < k48 ∧ I47 (IntKind.i64.wrap (i_50 + (1 : Int))) w85 k49) ∧
          (∃ w86 : World, StoreAt (Addr.mk w.heap.size 0 none) 0 [.int .i64 x78, .int .i64 x79, .int .i64 x80] w76.drew w86 ∧ 
            ∃ x87 : Int, ∃ x88 : Int, ∃ x89 : Int, CellsAt w86 (Addr.mk w64.heap.size 0 none) 0 [.int .i64 x87, .int .i64 x88, .int .i64 x89] ∧ 
            ∃ w90 : World, StoreAt (Addr.mk w40.heap.size 0 none) 0 [.int .i64 x87, .int .i64 x88, .int .i64 x89] w86 w90 ∧ 
            ∃ k49, k49 < k48 ∧ I47 (IntKind.i64.wrap (i_50 + (1 : Int))) w90 k49))))
        (Calls Try.prog 18 #[] w51 fun e w91 => ∃ r92 : Bool, e = .returned (.bool r92) ∧ 
          K (.bool r92) w91))) ∧
  (∃ x93 : Int, w35.cell? ((Addr.mk w.heap.size 0 none).add 2) = some (.int .i64 x93) ∧ 
    Calls Try.prog 23 #[.agg #[.int .i64 x37, .int .i64 x38, .int .i64 x39]] w35 fun e w94 => ∃ r95 : Int, e = .returned (.int .i64 r95) ∧ 
    cnd (r95 != x93)
    (K (.bool false) w94)
    (∃ x96 : Int, ∃ x97 : Int, ∃ x98 : Int, CellsAt w94 (Addr.mk w.heap.size 0 none) 0 [.int .i64 x96, .int .i64 x97, .int .i64 x98] ∧ 
      ∃ w99 : World, StoreAt (Addr.mk w94.heap.size 0 none) 0 [.int .i64 x96, .int .i64 x97, .int .i64 x98] (w94.alloc (.cells #[.int .i64 0, .int .i64 0, .int .i64 0] 30)) w99 ∧ 
      ∃ I100 : Int → World → Nat → Prop, (∃ k101, I100 0 w99 k101) ∧
      ∀ (i_103 : Int) (w104 : World) (k101 : Nat) (_ : Fr), I100 i_103 w104 k101 →
      cnd (decide (i_103 < (IntKind.i64.wrap n_)))
        (∃ x105 : Int, ∃ x106 : Int, ∃ x107 : Int, CellsAt w104 (Addr.mk w.heap.size 0 none) 0 [.int .i64 x105, .int .i64 x106, .int .i64 x107] ∧ 
          Calls Try.prog 20 #[.agg #[.int .i64 x105, .int .i64 x106, .int .i64 x107]] w104 fun e w108 => ∃ r109 : Int, ∃ r110 : Int, ∃ r111 : Int, ∃ r112 : Bool, e = .returned (.tuple #[.agg #[.int .i64 r109, .int .i64 r110, .int .i64 r111], .bool r112]) ∧ 
          ∃ w113 : World, StoreAt (Addr.mk w108.heap.size 0 none) 0 [.int .i64 r109, .int .i64 r110, .int .i64 r111] (w108.alloc (.cells #[.int .i64 0, .int .i64 0, .int .i64 0] 30)) w113 ∧ 
          ∃ x114 : Int, ∃ x115 : Int, ∃ x116 : Int, CellsAt w113 (Addr.mk w94.heap.size 0 none) 0 [.int .i64 x114, .int .i64 x115, .int .i64 x116] ∧ 
          Calls Try.prog 24 #[.agg #[.int .i64 x114, .int .i64 x115, .int .i64 x116]] w113 fun e w117 => ∃ r118 : Int, ∃ r119 : Int, ∃ r120 : Int, ∃ r121 : Bool, e = .returned (.tuple #[.agg #[.int .i64 r118, .int .i64 r119, .int .i64 r120], .bool r121]) ∧ 
          ∃ w122 : World, StoreAt (Addr.mk w117.heap.size 0 none) 0 [.int .i64 r118, .int .i64 r119, .int .i64 r120] (w117.alloc (.cells #[.int .i64 0, .int .i64 0, .int .i64 0] 30)) w122 ∧ 
          ∃ x123 : Int, ∃ x124 : Int, ∃ x125 : Int, CellsAt w122 (Addr.mk w108.heap.size 0 none) 0 [.int .i64 x123, .int .i64 x124, .int .i64 x125] ∧ 
          ∃ x126 : Int, ∃ x127 : Int, ∃ x128 : Int, CellsAt w122 (Addr.mk w117.heap.size 0 none) 0 [.int .i64 x126, .int .i64 x127, .int .i64 x128] ∧ 
          ∃ w129 : World, ∃ r130 : Bool, (do eqGuard .neq 30 (.tmp 68) (.tmp 69) (.agg #[.int .i64 x123, .int .i64 x124, .int .i64 x125]) (.agg #[.int .i64 x126, .int .i64 x127, .int .i64 x128]); binOp .neq 30 (.agg #[.int .i64 x123, .int .i64 x124, .int .i64 x125]) (.agg #[.int .i64 x126, .int .i64 x127, .int .i64 x128])).run Try.prog w122 = .ok (.bool r130) w129 ∧ 
          cnd r130
          (K (.bool false) w129)
          (cnd (!(r112 == r121))
          (K (.bool false) w129)
          (∃ x131 : Int, ∃ x132 : Int, ∃ x133 : Int, CellsAt w129.drew (Addr.mk w108.heap.size 0 none) 0 [.int .i64 x131, .int .i64 x132, .int .i64 x133] ∧ 
            (∃ x134 : Int, ∃ x135 : Int, ∃ x136 : Int, CellsAt w129.drew (Addr.mk w117.heap.size 0 none) 0 [.int .i64 x134, .int .i64 x135, .int .i64 x136] ∧ 
            ∃ w137 : World, StoreAt (Addr.mk w.heap.size 0 none) 0 [.int .i64 x131, .int .i64 x132, .int .i64 x133] w129.drew w137 ∧ 
            ∃ w138 : World, StoreAt (Addr.mk w94.heap.size 0 none) 0 [.int .i64 x134, .int .i64 x135, .int .i64 x136] w137 w138 ∧ 
            ∃ k102, k102 < k101 ∧ I100 (IntKind.i64.wrap (i_103 + (1 : Int))) w138 k102) ∧
          (∃ w139 : World, StoreAt (Addr.mk w.heap.size 0 none) 0 [.int .i64 x131, .int .i64 x132, .int .i64 x133] w129.drew w139 ∧ 
            ∃ x140 : Int, ∃ x141 : Int, ∃ x142 : Int, CellsAt w139 (Addr.mk w117.heap.size 0 none) 0 [.int .i64 x140, .int .i64 x141, .int .i64 x142] ∧ 
            ∃ w143 : World, StoreAt (Addr.mk w94.heap.size 0 none) 0 [.int .i64 x140, .int .i64 x141, .int .i64 x142] w139 w143 ∧ 
            ∃ k102, k102 < k101 ∧ I100 (IntKind.i64.wrap (i_103 + (1 : Int))) w143 k102))))
        (Calls Try.prog 18 #[] w104 fun e w144 => ∃ r145 : Bool, e = .returned (.bool r145) ∧ 
          K (.bool r145) w144)))))
theorem fathomlaw10_LubyTicks.eq (p_0 : Int) (p_1 : Int) (p_2 : Int) (n_ : Int) (w : World) (K : Value → World → Prop) : wpF Try.prog Try.f5 (.two .leaf (.two .leaf (.two .leaf (.two .leaf (.two .leaf (.two (.two .leaf (.one (.loop [(8, 3)] .leaf))) .leaf)))))) [.agg #[.int .i64 p_0, .int .i64 p_1, .int .i64 p_2], .int .u8 n_] w K = fathomlaw10_LubyTicks.w p_0 p_1 p_2 n_ w K := by kernel_rfl
theorem fathomlaw10_LubyTicks.ok : fnOk Try.prog Try.f5 2 = true := by kernel_rfl
theorem fathomlaw10_LubyTicks.calls {p_0 : Int} {p_1 : Int} {p_2 : Int} {n_ : Int} {w : World} {R : Ending → World → Prop} (h : fathomlaw10_LubyTicks.w p_0 p_1 p_2 n_ w fun v w' => R (.returned v) w') : Calls Try.prog 5 #[.agg #[.int .i64 p_0, .int .i64 p_1, .int .i64 p_2], .int .u8 n_] w R :=
  calls_of mixed Try.func5 fathomlaw10_LubyTicks.ok rfl (fun K => fathomlaw10_LubyTicks.eq p_0 p_1 p_2 n_ w K) h

/-! ### fathom/fathomlaw10.LubyPaces: function 6 (named slots 10) -/
def fathomlaw10_LubyPaces.w (unit_ : Int) (n_ : Int) (w : World) (K : Value → World → Prop) : Prop :=
  Calls Try.prog 25 #[.int .i64 unit_] w fun e w1 => ∃ r2 : Int, ∃ r3 : Int, ∃ r4 : Int, ∃ r5 : Int, e = .returned (.tuple #[.agg #[.int .i64 r2, .int .i64 r3, .int .i64 r4], .int .i64 r5]) ∧ 
  ∃ w6 : World, StoreAt (Addr.mk w1.heap.size 0 none) 0 [.int .i64 r2, .int .i64 r3, .int .i64 r4] (w1.alloc (.cells #[.int .i64 0, .int .i64 0, .int .i64 0] 30)) w6 ∧ 
  cnd (decide (unit_ < (1 : Int)))
  (cnd (r5 == (1 : Int))
  (∃ x7 : Int, ∃ x8 : Int, ∃ x9 : Int, CellsAt w6 (Addr.mk w1.heap.size 0 none) 0 [.int .i64 x7, .int .i64 x8, .int .i64 x9] ∧ 
  ∃ w10 : World, ∃ r11 : Bool, (do eqGuard .eql 30 (.tmp 24) (.tmp 25) (.agg #[.int .i64 x7, .int .i64 x8, .int .i64 x9]) (.agg #[.int .i64 0, .int .i64 0, .int .i64 0]); binOp .eql 30 (.agg #[.int .i64 x7, .int .i64 x8, .int .i64 x9]) (.agg #[.int .i64 0, .int .i64 0, .int .i64 0])).run Try.prog w6 = .ok (.bool r11) w10 ∧ 
  cnd r11
  (Calls Try.prog 18 #[] w10 fun e w12 => ∃ r13 : Bool, e = .returned (.bool r13) ∧ 
  K (.bool r13) w12)
  (K (.bool false) w10))
  (K (.bool false) w6))
  (cnd (decide (unit_ > (1048576 : Int)))
  (cnd (r5 == (1 : Int))
    (∃ x14 : Int, ∃ x15 : Int, ∃ x16 : Int, CellsAt w6 (Addr.mk w1.heap.size 0 none) 0 [.int .i64 x14, .int .i64 x15, .int .i64 x16] ∧ 
    ∃ w17 : World, ∃ r18 : Bool, (do eqGuard .eql 30 (.tmp 24) (.tmp 25) (.agg #[.int .i64 x14, .int .i64 x15, .int .i64 x16]) (.agg #[.int .i64 0, .int .i64 0, .int .i64 0]); binOp .eql 30 (.agg #[.int .i64 x14, .int .i64 x15, .int .i64 x16]) (.agg #[.int .i64 0, .int .i64 0, .int .i64 0])).run Try.prog w6 = .ok (.bool r18) w17 ∧ 
    cnd r18
    (Calls Try.prog 18 #[] w17 fun e w19 => ∃ r20 : Bool, e = .returned (.bool r20) ∧ 
    K (.bool r20) w19)
    (K (.bool false) w17))
    (K (.bool false) w6))
  (cnd (r5 != (0 : Int))
    (K (.bool false) w6)
    (∃ x21 : Int, w6.cell? ((Addr.mk w1.heap.size 0 none).add 1) = some (.int .i64 x21) ∧ 
    cnd (x21 != (1 : Int))
    (K (.bool false) w6)
    (∃ x22 : Int, w6.cell? ((Addr.mk w1.heap.size 0 none).add 2) = some (.int .i64 x22) ∧ 
    cnd (x22 != unit_)
    (K (.bool false) w6)
    (cnd (decide (unit_ > (20 : Int)))
      (Calls Try.prog 18 #[] w6 fun e w23 => ∃ r24 : Bool, e = .returned (.bool r24) ∧ 
        K (.bool r24) w23)
      (∃ I25 : Int → World → Nat → Prop, (∃ k26, I25 1 w6 k26) ∧
        ∀ (i_28 : Int) (w29 : World) (k26 : Nat) (_ : Fr), I25 i_28 w29 k26 →
        (40 : Int) ≠ 0 ∧ cnd (decide (i_28 ≤ (IntKind.i64.wrap (n_.tmod (40 : Int)))))
          (Calls Try.prog 16 #[.int .i64 i_28] w29 fun e w30 => ∃ r31 : Int, e = .returned (.int .i64 r31) ∧ 
            ∃ I32 : Bool → Int → World → Nat → Prop, (∃ k33, I32 false (IntKind.i64.wrap (unit_ * r31)) w30 k33) ∧
            ∀ (again_35 : Bool) (k_36 : Int) (w37 : World) (k33 : Nat) (_ : Fr), I32 again_35 k_36 w37 k33 →
            cnd (decide (k_36 > (0 : Int)))
              (cnd again_35
                (K (.bool false) w37)
                (∃ x38 : Int, ∃ x39 : Int, ∃ x40 : Int, CellsAt w37 (Addr.mk w1.heap.size 0 none) 0 [.int .i64 x38, .int .i64 x39, .int .i64 x40] ∧ 
                  Calls Try.prog 20 #[.agg #[.int .i64 x38, .int .i64 x39, .int .i64 x40]] w37 fun e w41 => ∃ r42 : Int, ∃ r43 : Int, ∃ r44 : Int, ∃ r45 : Bool, e = .returned (.tuple #[.agg #[.int .i64 r42, .int .i64 r43, .int .i64 r44], .bool r45]) ∧ 
                  ∃ w46 : World, StoreAt (Addr.mk w1.heap.size 0 none) 0 [.int .i64 r42, .int .i64 r43, .int .i64 r44] w41 w46 ∧ 
                  ∃ k34, k34 < k33 ∧ I32 r45 (IntKind.i64.wrap (k_36 - (1 : Int))) w46 k34))
              (cnd (!again_35)
                (K (.bool false) w37)
                (∃ x47 : Int, w37.cell? ((Addr.mk w1.heap.size 0 none).add 1) = some (.int .i64 x47) ∧ 
                cnd (x47 != (IntKind.i64.wrap (i_28 + (1 : Int))))
                (K (.bool false) w37)
                (∃ k27, k27 < k26 ∧ I25 (IntKind.i64.wrap (i_28 + (1 : Int))) w37 k27))))
          (Calls Try.prog 18 #[] w29 fun e w48 => ∃ r49 : Bool, e = .returned (.bool r49) ∧ 
            K (.bool r49) w48)))))))
theorem fathomlaw10_LubyPaces.eq (unit_ : Int) (n_ : Int) (w : World) (K : Value → World → Prop) : wpF Try.prog Try.f6 (.two .leaf (.two .leaf (.two .leaf (.two .leaf (.two .leaf (.two (.two .leaf (.one (.loop [(7, 3)] (.two .leaf (.two (.one (.two .leaf (.two (.two .leaf (.one (.loop [(8, 4), (9, 3)] .leaf))) .leaf))) .leaf))))) .leaf)))))) [.int .i64 unit_, .int .u8 n_] w K = fathomlaw10_LubyPaces.w unit_ n_ w K := by kernel_rfl
theorem fathomlaw10_LubyPaces.ok : fnOk Try.prog Try.f6 2 = true := by kernel_rfl
theorem fathomlaw10_LubyPaces.calls {unit_ : Int} {n_ : Int} {w : World} {R : Ending → World → Prop} (h : fathomlaw10_LubyPaces.w unit_ n_ w fun v w' => R (.returned v) w') : Calls Try.prog 6 #[.int .i64 unit_, .int .u8 n_] w R :=
  calls_of mixed Try.func6 fathomlaw10_LubyPaces.ok rfl (fun K => fathomlaw10_LubyPaces.eq unit_ n_ w K) h

/-! ### fathom/luby.Number: function 15 (named slots 4) -/
def luby_Number.w (i_ : Int) (w : World) (K : Value → World → Prop) : Prop :=
  cnd (decide (i_ < (1 : Int)))
  (K (.tuple #[.int .i64 0, .int .i64 1]) w)
  (cnd (decide (i_ > (1073741824 : Int)))
  (K (.tuple #[.int .i64 0, .int .i64 1]) w)
  (Calls Try.prog 57 #[.int .i64 i_] w fun e w1 => ∃ r2 : Int, e = .returned (.int .i64 r2) ∧ 
    K (.tuple #[.int .i64 r2, .int .i64 0]) w1))
theorem luby_Number.eq (i_ : Int) (w : World) (K : Value → World → Prop) : wpF Try.prog Try.f15 .leaf [.int .i64 i_] w K = luby_Number.w i_ w K := by kernel_rfl
theorem luby_Number.ok : fnOk Try.prog Try.f15 1 = true := by kernel_rfl
theorem luby_Number.calls {i_ : Int} {w : World} {R : Ending → World → Prop} (h : luby_Number.w i_ w fun v w' => R (.returned v) w') : Calls Try.prog 15 #[.int .i64 i_] w R :=
  calls_of mixed Try.func15 luby_Number.ok rfl (fun K => luby_Number.eq i_ w K) h

/-! ### fathom/fathomref10.Number: function 16 (named slots 5) -/
def fathomref10_Number.w (i_ : Int) (w : World) (K : Value → World → Prop) : Prop :=
  ∃ I1 : Int → Int → World → Nat → Prop, (∃ k2, I1 1 1 w k2) ∧
  ∀ (full_4 : Int) (power_5 : Int) (w6 : World) (k2 : Nat) (_ : Fr), I1 full_4 power_5 w6 k2 →
  cnd (decide (full_4 < i_))
    (∃ k3, k3 < k2 ∧ I1 (IntKind.i64.wrap ((IntKind.i64.wrap ((2 : Int) * full_4)) + (1 : Int))) (IntKind.i64.wrap (power_5 * (2 : Int))) w6 k3)
    (cnd (i_ == full_4)
      (K (.int .i64 power_5) w6)
      ((2 : Int) ≠ 0 ∧ Calls Try.prog 16 #[.int .i64 (IntKind.i64.wrap (i_ - (IntKind.i64.wrap ((IntKind.i64.wrap (full_4 - (1 : Int))).tdiv (2 : Int)))))] w6 fun e w7 => ∃ r8 : Int, e = .returned (.int .i64 r8) ∧ 
        K (.int .i64 r8) w7))
theorem fathomref10_Number.eq (i_ : Int) (w : World) (K : Value → World → Prop) : wpF Try.prog Try.f16 (.two .leaf (.two .leaf (.two (.one (.loop [(3, 3), (4, 3)] .leaf)) .leaf))) [.int .i64 i_] w K = fathomref10_Number.w i_ w K := by kernel_rfl
theorem fathomref10_Number.ok : fnOk Try.prog Try.f16 1 = true := by kernel_rfl
theorem fathomref10_Number.calls {i_ : Int} {w : World} {R : Ending → World → Prop} (h : fathomref10_Number.w i_ w fun v w' => R (.returned v) w') : Calls Try.prog 16 #[.int .i64 i_] w R :=
  calls_of mixed Try.func16 fathomref10_Number.ok rfl (fun K => fathomref10_Number.eq i_ w K) h

/-! ### fathom/luby.Sum: function 17 (named slots 6) -/
def luby_Sum.w (n_ : Int) (w : World) (K : Value → World → Prop) : Prop :=
  cnd (decide (n_ < (0 : Int)))
  (K (.tuple #[.int .i64 0, .int .i64 1]) w)
  (cnd (decide (n_ > (1073741824 : Int)))
  (K (.tuple #[.int .i64 0, .int .i64 1]) w)
  (∃ I1 : Int → Int → World → Nat → Prop, (∃ k2, I1 n_ 0 w k2) ∧
    ∀ (n_4 : Int) (sum_5 : Int) (w6 : World) (k2 : Nat) (_ : Fr), I1 n_4 sum_5 w6 k2 →
    cnd (decide (n_4 > (0 : Int)))
      (Calls Try.prog 58 #[.int .u64 (IntKind.u64.wrap (IntKind.i64.wrap (n_4 + (1 : Int))))] w6 fun e w7 => ∃ r8 : Int, e = .returned (.int .i64 r8) ∧ 
        0 ≤ (IntKind.i64.wrap (r8 - (1 : Int))) ∧ (2 : Int) ≠ 0 ∧ 0 ≤ (IntKind.i64.wrap (r8 - (1 : Int))) ∧ ∃ k3, k3 < k2 ∧ I1 (IntKind.i64.wrap (n_4 - (IntKind.i64.wrap ((IntKind.i64.wrap ((1 : Int) * 2 ^ (min (IntKind.i64.wrap (r8 - (1 : Int))).toNat (IntKind.bits .i64)))) - (1 : Int))))) (IntKind.i64.wrap (sum_5 + (IntKind.i64.wrap ((IntKind.i64.wrap ((IntKind.i64.wrap (r8 - (1 : Int))) * (IntKind.i64.wrap ((1 : Int) * 2 ^ (min (IntKind.i64.wrap (r8 - (1 : Int))).toNat (IntKind.bits .i64)))))).tdiv (2 : Int))))) w7 k3)
      (K (.tuple #[.int .i64 sum_5, .int .i64 0]) w6)))
theorem luby_Sum.eq (n_ : Int) (w : World) (K : Value → World → Prop) : wpF Try.prog Try.f17 (.two .leaf (.two .leaf (.two .leaf (.two (.one (.loop [(0, 3), (4, 3)] .leaf)) .leaf)))) [.int .i64 n_] w K = luby_Sum.w n_ w K := by kernel_rfl
theorem luby_Sum.ok : fnOk Try.prog Try.f17 1 = true := by kernel_rfl
theorem luby_Sum.calls {n_ : Int} {w : World} {R : Ending → World → Prop} (h : luby_Sum.w n_ w fun v w' => R (.returned v) w') : Calls Try.prog 17 #[.int .i64 n_] w R :=
  calls_of mixed Try.func17 luby_Sum.ok rfl (fun K => luby_Sum.eq n_ w K) h

/-! ### fathom/fathomlaw10.awake: function 18 (named slots 5) -/
def fathomlaw10_awake.w (w : World) (K : Value → World → Prop) : Prop :=
  Calls Try.prog 15 #[.int .i64 7] w fun e w1 => ∃ r2 : Int, ∃ r3 : Int, e = .returned (.tuple #[.int .i64 r2, .int .i64 r3]) ∧ 
  Calls Try.prog 17 #[.int .i64 7] w1 fun e w4 => ∃ r5 : Int, ∃ r6 : Int, e = .returned (.tuple #[.int .i64 r5, .int .i64 r6]) ∧ 
  cnd (r3 == (0 : Int))
  (cnd (r6 == (0 : Int))
  (cnd (r2 == (4 : Int))
  (K (.bool (r5 == (12 : Int))) w4)
  (K (.bool false) w4))
  (K (.bool false) w4))
  (K (.bool false) w4)
theorem fathomlaw10_awake.eq (w : World) (K : Value → World → Prop) : wpF Try.prog Try.f18 .leaf [] w K = fathomlaw10_awake.w  w K := by kernel_rfl
theorem fathomlaw10_awake.ok : fnOk Try.prog Try.f18 0 = true := by kernel_rfl
theorem fathomlaw10_awake.calls {w : World} {R : Ending → World → Prop} (h : fathomlaw10_awake.w  w fun v w' => R (.returned v) w') : Calls Try.prog 18 #[] w R :=
  calls_of mixed Try.func18 fathomlaw10_awake.ok rfl (fun K => fathomlaw10_awake.eq  w K) h

/-! ### fathom/fathomref10.Sum: function 19 (named slots 5) -/
def fathomref10_Sum.w (n_ : Int) (w : World) (K : Value → World → Prop) : Prop :=
  ∃ I1 : Int → Int → World → Nat → Prop, (∃ k2, I1 0 1 w k2) ∧
  ∀ (s_4 : Int) (i_5 : Int) (w6 : World) (k2 : Nat) (_ : Fr), I1 s_4 i_5 w6 k2 →
  cnd (decide (i_5 ≤ n_))
    (Calls Try.prog 16 #[.int .i64 i_5] w6 fun e w7 => ∃ r8 : Int, e = .returned (.int .i64 r8) ∧ 
      ∃ k3, k3 < k2 ∧ I1 (IntKind.i64.wrap (s_4 + r8)) (IntKind.i64.wrap (i_5 + (1 : Int))) w7 k3)
    (K (.int .i64 s_4) w6)
theorem fathomref10_Sum.eq (n_ : Int) (w : World) (K : Value → World → Prop) : wpF Try.prog Try.f19 (.two .leaf (.two .leaf (.two (.two .leaf (.one (.loop [(3, 3), (4, 3)] .leaf))) .leaf))) [.int .i64 n_] w K = fathomref10_Sum.w n_ w K := by kernel_rfl
theorem fathomref10_Sum.ok : fnOk Try.prog Try.f19 1 = true := by kernel_rfl
theorem fathomref10_Sum.calls {n_ : Int} {w : World} {R : Ending → World → Prop} (h : fathomref10_Sum.w n_ w fun v w' => R (.returned v) w') : Calls Try.prog 19 #[.int .i64 n_] w R :=
  calls_of mixed Try.func19 fathomref10_Sum.ok rfl (fun K => fathomref10_Sum.eq n_ w K) h

/-! ### fathom/luby.Tick: function 20 (named slots 4) -/
def luby_Tick.w (p_0 : Int) (p_1 : Int) (p_2 : Int) (w : World) (K : Value → World → Prop) : Prop :=
  ∃ x1 : Int, ∃ x2 : Int, ∃ x3 : Int, CellsAt ((w.alloc (.cells #[.int .i64 p_0, .int .i64 p_1, .int .i64 p_2] 30)).alloc (.cells #[.int .i64 0, .int .i64 0, .int .i64 0] 30)) (Addr.mk w.heap.size 0 none) 0 [.int .i64 x1, .int .i64 x2, .int .i64 x3] ∧ 
  Calls Try.prog 22 #[.agg #[.int .i64 x1, .int .i64 x2, .int .i64 x3]] ((w.alloc (.cells #[.int .i64 p_0, .int .i64 p_1, .int .i64 p_2] 30)).alloc (.cells #[.int .i64 0, .int .i64 0, .int .i64 0] 30)) fun e w4 => ∃ r5 : Int, e = .returned (.int .i64 r5) ∧ 
  cnd (r5 != (0 : Int))
  (∃ w6 : World, StoreAt (Addr.mk (w.alloc (.cells #[.int .i64 p_0, .int .i64 p_1, .int .i64 p_2] 30)).heap.size 0 none) 0 [.int .i64 0, .int .i64 0, .int .i64 0] w4 w6 ∧ 
    ∃ x7 : Int, ∃ x8 : Int, ∃ x9 : Int, CellsAt w6 (Addr.mk (w.alloc (.cells #[.int .i64 p_0, .int .i64 p_1, .int .i64 p_2] 30)).heap.size 0 none) 0 [.int .i64 x7, .int .i64 x8, .int .i64 x9] ∧ 
    K (.tuple #[.agg #[.int .i64 x7, .int .i64 x8, .int .i64 x9], .bool false]) w6)
  (∃ x10 : Int, w4.cell? ((Addr.mk w.heap.size 0 none).add 2) = some (.int .i64 x10) ∧ 
    (∃ u11, w4.cell? ((Addr.mk w.heap.size 0 none).add 2) = some u11) ∧ w4.frozen? ((Addr.mk w.heap.size 0 none).add 2) = false ∧ 
    ∃ x12 : Int, (w4.setCell ((Addr.mk w.heap.size 0 none).add 2) (.int .i64 (IntKind.i64.wrap (x10 - (1 : Int))))).cell? ((Addr.mk w.heap.size 0 none).add 2) = some (.int .i64 x12) ∧ 
    cnd (decide (x12 > (0 : Int)))
    (∃ x13 : Int, ∃ x14 : Int, ∃ x15 : Int, CellsAt (w4.setCell ((Addr.mk w.heap.size 0 none).add 2) (.int .i64 (IntKind.i64.wrap (x10 - (1 : Int))))) (Addr.mk w.heap.size 0 none) 0 [.int .i64 x13, .int .i64 x14, .int .i64 x15] ∧ 
      ∃ w16 : World, StoreAt (Addr.mk (w.alloc (.cells #[.int .i64 p_0, .int .i64 p_1, .int .i64 p_2] 30)).heap.size 0 none) 0 [.int .i64 x13, .int .i64 x14, .int .i64 x15] (w4.setCell ((Addr.mk w.heap.size 0 none).add 2) (.int .i64 (IntKind.i64.wrap (x10 - (1 : Int))))) w16 ∧ 
      ∃ x17 : Int, ∃ x18 : Int, ∃ x19 : Int, CellsAt w16 (Addr.mk (w.alloc (.cells #[.int .i64 p_0, .int .i64 p_1, .int .i64 p_2] 30)).heap.size 0 none) 0 [.int .i64 x17, .int .i64 x18, .int .i64 x19] ∧ 
      K (.tuple #[.agg #[.int .i64 x17, .int .i64 x18, .int .i64 x19], .bool false]) w16)
    (∃ x20 : Int, (w4.setCell ((Addr.mk w.heap.size 0 none).add 2) (.int .i64 (IntKind.i64.wrap (x10 - (1 : Int))))).cell? ((Addr.mk w.heap.size 0 none).add 1) = some (.int .i64 x20) ∧ 
      (1073741824 : Int) ≠ 0 ∧ (∃ u21, (w4.setCell ((Addr.mk w.heap.size 0 none).add 2) (.int .i64 (IntKind.i64.wrap (x10 - (1 : Int))))).cell? ((Addr.mk w.heap.size 0 none).add 1) = some u21) ∧ (w4.setCell ((Addr.mk w.heap.size 0 none).add 2) (.int .i64 (IntKind.i64.wrap (x10 - (1 : Int))))).frozen? ((Addr.mk w.heap.size 0 none).add 1) = false ∧ 
      ∃ x22 : Int, (((w4.setCell ((Addr.mk w.heap.size 0 none).add 2) (.int .i64 (IntKind.i64.wrap (x10 - (1 : Int))))).setCell ((Addr.mk w.heap.size 0 none).add 1) (.int .i64 (IntKind.i64.wrap ((x20.tmod (1073741824 : Int)) + (1 : Int))))).drew).cell? ((Addr.mk w.heap.size 0 none).add 1) = some (.int .i64 x22) ∧ 
      (∃ x23 : Int, (((w4.setCell ((Addr.mk w.heap.size 0 none).add 2) (.int .i64 (IntKind.i64.wrap (x10 - (1 : Int))))).setCell ((Addr.mk w.heap.size 0 none).add 1) (.int .i64 (IntKind.i64.wrap ((x20.tmod (1073741824 : Int)) + (1 : Int))))).drew).cell? ((Addr.mk w.heap.size 0 none).add 0) = some (.int .i64 x23) ∧ 
      Calls Try.prog 57 #[.int .i64 x22] (((w4.setCell ((Addr.mk w.heap.size 0 none).add 2) (.int .i64 (IntKind.i64.wrap (x10 - (1 : Int))))).setCell ((Addr.mk w.heap.size 0 none).add 1) (.int .i64 (IntKind.i64.wrap ((x20.tmod (1073741824 : Int)) + (1 : Int))))).drew) fun e w24 => ∃ r25 : Int, e = .returned (.int .i64 r25) ∧ 
      (∃ u26, w24.cell? ((Addr.mk w.heap.size 0 none).add 2) = some u26) ∧ w24.frozen? ((Addr.mk w.heap.size 0 none).add 2) = false ∧ 
      ∃ x27 : Int, ∃ x28 : Int, ∃ x29 : Int, CellsAt (w24.setCell ((Addr.mk w.heap.size 0 none).add 2) (.int .i64 (IntKind.i64.wrap (x23 * r25)))) (Addr.mk w.heap.size 0 none) 0 [.int .i64 x27, .int .i64 x28, .int .i64 x29] ∧ 
      ∃ w30 : World, StoreAt (Addr.mk (w.alloc (.cells #[.int .i64 p_0, .int .i64 p_1, .int .i64 p_2] 30)).heap.size 0 none) 0 [.int .i64 x27, .int .i64 x28, .int .i64 x29] (w24.setCell ((Addr.mk w.heap.size 0 none).add 2) (.int .i64 (IntKind.i64.wrap (x23 * r25)))) w30 ∧ 
      ∃ x31 : Int, ∃ x32 : Int, ∃ x33 : Int, CellsAt w30 (Addr.mk (w.alloc (.cells #[.int .i64 p_0, .int .i64 p_1, .int .i64 p_2] 30)).heap.size 0 none) 0 [.int .i64 x31, .int .i64 x32, .int .i64 x33] ∧ 
      K (.tuple #[.agg #[.int .i64 x31, .int .i64 x32, .int .i64 x33], .bool true]) w30) ∧
    (Calls Try.prog 57 #[.int .i64 x22] (((w4.setCell ((Addr.mk w.heap.size 0 none).add 2) (.int .i64 (IntKind.i64.wrap (x10 - (1 : Int))))).setCell ((Addr.mk w.heap.size 0 none).add 1) (.int .i64 (IntKind.i64.wrap ((x20.tmod (1073741824 : Int)) + (1 : Int))))).drew) fun e w34 => ∃ r35 : Int, e = .returned (.int .i64 r35) ∧ 
      ∃ x36 : Int, w34.cell? ((Addr.mk w.heap.size 0 none).add 0) = some (.int .i64 x36) ∧ 
      (∃ u37, w34.cell? ((Addr.mk w.heap.size 0 none).add 2) = some u37) ∧ w34.frozen? ((Addr.mk w.heap.size 0 none).add 2) = false ∧ 
      ∃ x38 : Int, ∃ x39 : Int, ∃ x40 : Int, CellsAt (w34.setCell ((Addr.mk w.heap.size 0 none).add 2) (.int .i64 (IntKind.i64.wrap (x36 * r35)))) (Addr.mk w.heap.size 0 none) 0 [.int .i64 x38, .int .i64 x39, .int .i64 x40] ∧ 
      ∃ w41 : World, StoreAt (Addr.mk (w.alloc (.cells #[.int .i64 p_0, .int .i64 p_1, .int .i64 p_2] 30)).heap.size 0 none) 0 [.int .i64 x38, .int .i64 x39, .int .i64 x40] (w34.setCell ((Addr.mk w.heap.size 0 none).add 2) (.int .i64 (IntKind.i64.wrap (x36 * r35)))) w41 ∧ 
      ∃ x42 : Int, ∃ x43 : Int, ∃ x44 : Int, CellsAt w41 (Addr.mk (w.alloc (.cells #[.int .i64 p_0, .int .i64 p_1, .int .i64 p_2] 30)).heap.size 0 none) 0 [.int .i64 x42, .int .i64 x43, .int .i64 x44] ∧ 
      K (.tuple #[.agg #[.int .i64 x42, .int .i64 x43, .int .i64 x44], .bool true]) w41)))
theorem luby_Tick.eq (p_0 : Int) (p_1 : Int) (p_2 : Int) (w : World) (K : Value → World → Prop) : wpF Try.prog Try.f20 .leaf [.agg #[.int .i64 p_0, .int .i64 p_1, .int .i64 p_2]] w K = luby_Tick.w p_0 p_1 p_2 w K := by kernel_rfl
theorem luby_Tick.ok : fnOk Try.prog Try.f20 1 = true := by kernel_rfl
theorem luby_Tick.calls {p_0 : Int} {p_1 : Int} {p_2 : Int} {w : World} {R : Ending → World → Prop} (h : luby_Tick.w p_0 p_1 p_2 w fun v w' => R (.returned v) w') : Calls Try.prog 20 #[.agg #[.int .i64 p_0, .int .i64 p_1, .int .i64 p_2]] w R :=
  calls_of mixed Try.func20 luby_Tick.ok rfl (fun K => luby_Tick.eq p_0 p_1 p_2 w K) h

/-! ### fathom/fathomref10.May: function 21 (named slots 3) -/
def fathomref10_May.w (p_0 : Int) (p_1 : Int) (p_2 : Int) (w : World) (K : Value → World → Prop) : Prop :=
  ∃ x1 : Int, ((w.alloc (.cells #[.int .i64 p_0, .int .i64 p_1, .int .i64 p_2] 30)).drew).cell? ((Addr.mk w.heap.size 0 none).add 0) = some (.int .i64 x1) ∧ 
  cnd (decide (x1 ≥ (1 : Int)))
  (∃ x2 : Int, ((w.alloc (.cells #[.int .i64 p_0, .int .i64 p_1, .int .i64 p_2] 30)).drew).cell? ((Addr.mk w.heap.size 0 none).add 0) = some (.int .i64 x2) ∧ 
  cnd (decide (x2 ≤ (1048576 : Int)))
  (∃ x3 : Int, ((w.alloc (.cells #[.int .i64 p_0, .int .i64 p_1, .int .i64 p_2] 30)).drew).cell? ((Addr.mk w.heap.size 0 none).add 1) = some (.int .i64 x3) ∧ 
  cnd (decide (x3 ≥ (1 : Int)))
  (∃ x4 : Int, ((w.alloc (.cells #[.int .i64 p_0, .int .i64 p_1, .int .i64 p_2] 30)).drew).cell? ((Addr.mk w.heap.size 0 none).add 1) = some (.int .i64 x4) ∧ 
  cnd (decide (x4 ≤ (1073741824 : Int)))
  (∃ x5 : Int, ((w.alloc (.cells #[.int .i64 p_0, .int .i64 p_1, .int .i64 p_2] 30)).drew).cell? ((Addr.mk w.heap.size 0 none).add 2) = some (.int .i64 x5) ∧ 
  cnd (decide (x5 ≥ (1 : Int)))
  (∃ x6 : Int, ((w.alloc (.cells #[.int .i64 p_0, .int .i64 p_1, .int .i64 p_2] 30)).drew).cell? ((Addr.mk w.heap.size 0 none).add 1) = some (.int .i64 x6) ∧ 
  (∃ x7 : Int, ((w.alloc (.cells #[.int .i64 p_0, .int .i64 p_1, .int .i64 p_2] 30)).drew).cell? ((Addr.mk w.heap.size 0 none).add 2) = some (.int .i64 x7) ∧ 
  (∃ x8 : Int, ((w.alloc (.cells #[.int .i64 p_0, .int .i64 p_1, .int .i64 p_2] 30)).drew).cell? ((Addr.mk w.heap.size 0 none).add 0) = some (.int .i64 x8) ∧ 
  Calls Try.prog 16 #[.int .i64 x6] ((w.alloc (.cells #[.int .i64 p_0, .int .i64 p_1, .int .i64 p_2] 30)).drew) fun e w9 => ∃ r10 : Int, e = .returned (.int .i64 r10) ∧ 
  K (.bool (decide (x7 ≤ (IntKind.i64.wrap (x8 * r10))))) w9) ∧
(Calls Try.prog 16 #[.int .i64 x6] ((w.alloc (.cells #[.int .i64 p_0, .int .i64 p_1, .int .i64 p_2] 30)).drew) fun e w11 => ∃ r12 : Int, e = .returned (.int .i64 r12) ∧ 
  ∃ x13 : Int, w11.cell? ((Addr.mk w.heap.size 0 none).add 0) = some (.int .i64 x13) ∧ 
  K (.bool (decide (x7 ≤ (IntKind.i64.wrap (x13 * r12))))) w11)) ∧
(∃ x14 : Int, ((w.alloc (.cells #[.int .i64 p_0, .int .i64 p_1, .int .i64 p_2] 30)).drew).cell? ((Addr.mk w.heap.size 0 none).add 0) = some (.int .i64 x14) ∧ 
  (∃ x15 : Int, ((w.alloc (.cells #[.int .i64 p_0, .int .i64 p_1, .int .i64 p_2] 30)).drew).cell? ((Addr.mk w.heap.size 0 none).add 2) = some (.int .i64 x15) ∧ 
  Calls Try.prog 16 #[.int .i64 x6] ((w.alloc (.cells #[.int .i64 p_0, .int .i64 p_1, .int .i64 p_2] 30)).drew) fun e w16 => ∃ r17 : Int, e = .returned (.int .i64 r17) ∧ 
  K (.bool (decide (x15 ≤ (IntKind.i64.wrap (x14 * r17))))) w16) ∧
(Calls Try.prog 16 #[.int .i64 x6] ((w.alloc (.cells #[.int .i64 p_0, .int .i64 p_1, .int .i64 p_2] 30)).drew) fun e w18 => ∃ r19 : Int, e = .returned (.int .i64 r19) ∧ 
  ∃ x20 : Int, w18.cell? ((Addr.mk w.heap.size 0 none).add 2) = some (.int .i64 x20) ∧ 
  K (.bool (decide (x20 ≤ (IntKind.i64.wrap (x14 * r19))))) w18)) ∧
(Calls Try.prog 16 #[.int .i64 x6] ((w.alloc (.cells #[.int .i64 p_0, .int .i64 p_1, .int .i64 p_2] 30)).drew) fun e w21 => ∃ r22 : Int, e = .returned (.int .i64 r22) ∧ 
  ∃ x23 : Int, w21.cell? ((Addr.mk w.heap.size 0 none).add 2) = some (.int .i64 x23) ∧ 
  ∃ x24 : Int, w21.cell? ((Addr.mk w.heap.size 0 none).add 0) = some (.int .i64 x24) ∧ 
  K (.bool (decide (x23 ≤ (IntKind.i64.wrap (x24 * r22))))) w21))
  (((K (.bool false) ((w.alloc (.cells #[.int .i64 p_0, .int .i64 p_1, .int .i64 p_2] 30)).drew)) ∧
(K (.bool false) ((w.alloc (.cells #[.int .i64 p_0, .int .i64 p_1, .int .i64 p_2] 30)).drew))) ∧
((K (.bool false) ((w.alloc (.cells #[.int .i64 p_0, .int .i64 p_1, .int .i64 p_2] 30)).drew)) ∧
(K (.bool false) ((w.alloc (.cells #[.int .i64 p_0, .int .i64 p_1, .int .i64 p_2] 30)).drew))) ∧
(K (.bool false) ((w.alloc (.cells #[.int .i64 p_0, .int .i64 p_1, .int .i64 p_2] 30)).drew))))
  (((K (.bool false) ((w.alloc (.cells #[.int .i64 p_0, .int .i64 p_1, .int .i64 p_2] 30)).drew)) ∧
(K (.bool false) ((w.alloc (.cells #[.int .i64 p_0, .int .i64 p_1, .int .i64 p_2] 30)).drew))) ∧
((K (.bool false) ((w.alloc (.cells #[.int .i64 p_0, .int .i64 p_1, .int .i64 p_2] 30)).drew)) ∧
(K (.bool false) ((w.alloc (.cells #[.int .i64 p_0, .int .i64 p_1, .int .i64 p_2] 30)).drew))) ∧
(K (.bool false) ((w.alloc (.cells #[.int .i64 p_0, .int .i64 p_1, .int .i64 p_2] 30)).drew))))
  (((K (.bool false) ((w.alloc (.cells #[.int .i64 p_0, .int .i64 p_1, .int .i64 p_2] 30)).drew)) ∧
(K (.bool false) ((w.alloc (.cells #[.int .i64 p_0, .int .i64 p_1, .int .i64 p_2] 30)).drew))) ∧
((K (.bool false) ((w.alloc (.cells #[.int .i64 p_0, .int .i64 p_1, .int .i64 p_2] 30)).drew)) ∧
(K (.bool false) ((w.alloc (.cells #[.int .i64 p_0, .int .i64 p_1, .int .i64 p_2] 30)).drew))) ∧
(K (.bool false) ((w.alloc (.cells #[.int .i64 p_0, .int .i64 p_1, .int .i64 p_2] 30)).drew))))
  (((K (.bool false) ((w.alloc (.cells #[.int .i64 p_0, .int .i64 p_1, .int .i64 p_2] 30)).drew)) ∧
(K (.bool false) ((w.alloc (.cells #[.int .i64 p_0, .int .i64 p_1, .int .i64 p_2] 30)).drew))) ∧
((K (.bool false) ((w.alloc (.cells #[.int .i64 p_0, .int .i64 p_1, .int .i64 p_2] 30)).drew)) ∧
(K (.bool false) ((w.alloc (.cells #[.int .i64 p_0, .int .i64 p_1, .int .i64 p_2] 30)).drew))) ∧
(K (.bool false) ((w.alloc (.cells #[.int .i64 p_0, .int .i64 p_1, .int .i64 p_2] 30)).drew))))
  (((K (.bool false) ((w.alloc (.cells #[.int .i64 p_0, .int .i64 p_1, .int .i64 p_2] 30)).drew)) ∧
(K (.bool false) ((w.alloc (.cells #[.int .i64 p_0, .int .i64 p_1, .int .i64 p_2] 30)).drew))) ∧
((K (.bool false) ((w.alloc (.cells #[.int .i64 p_0, .int .i64 p_1, .int .i64 p_2] 30)).drew)) ∧
(K (.bool false) ((w.alloc (.cells #[.int .i64 p_0, .int .i64 p_1, .int .i64 p_2] 30)).drew))) ∧
(K (.bool false) ((w.alloc (.cells #[.int .i64 p_0, .int .i64 p_1, .int .i64 p_2] 30)).drew)))
theorem fathomref10_May.eq (p_0 : Int) (p_1 : Int) (p_2 : Int) (w : World) (K : Value → World → Prop) : wpF Try.prog Try.f21 .leaf [.agg #[.int .i64 p_0, .int .i64 p_1, .int .i64 p_2]] w K = fathomref10_May.w p_0 p_1 p_2 w K := by kernel_rfl
theorem fathomref10_May.ok : fnOk Try.prog Try.f21 1 = true := by kernel_rfl
theorem fathomref10_May.calls {p_0 : Int} {p_1 : Int} {p_2 : Int} {w : World} {R : Ending → World → Prop} (h : fathomref10_May.w p_0 p_1 p_2 w fun v w' => R (.returned v) w') : Calls Try.prog 21 #[.agg #[.int .i64 p_0, .int .i64 p_1, .int .i64 p_2]] w R :=
  calls_of mixed Try.func21 fathomref10_May.ok rfl (fun K => fathomref10_May.eq p_0 p_1 p_2 w K) h

/-! ### fathom/luby.Check: function 22 (named slots 3) -/
def luby_Check.w (p_0 : Int) (p_1 : Int) (p_2 : Int) (w : World) (K : Value → World → Prop) : Prop :=
  ∃ x1 : Int, ((w.alloc (.cells #[.int .i64 p_0, .int .i64 p_1, .int .i64 p_2] 30)).drew).cell? ((Addr.mk w.heap.size 0 none).add 0) = some (.int .i64 x1) ∧ 
  cnd (decide (x1 < (1 : Int)))
  (((K (.int .i64 1) ((w.alloc (.cells #[.int .i64 p_0, .int .i64 p_1, .int .i64 p_2] 30)).drew)) ∧
(K (.int .i64 1) ((w.alloc (.cells #[.int .i64 p_0, .int .i64 p_1, .int .i64 p_2] 30)).drew))) ∧
((K (.int .i64 1) ((w.alloc (.cells #[.int .i64 p_0, .int .i64 p_1, .int .i64 p_2] 30)).drew)) ∧
(K (.int .i64 1) ((w.alloc (.cells #[.int .i64 p_0, .int .i64 p_1, .int .i64 p_2] 30)).drew))) ∧
(K (.int .i64 1) ((w.alloc (.cells #[.int .i64 p_0, .int .i64 p_1, .int .i64 p_2] 30)).drew)))
  (∃ x2 : Int, ((w.alloc (.cells #[.int .i64 p_0, .int .i64 p_1, .int .i64 p_2] 30)).drew).cell? ((Addr.mk w.heap.size 0 none).add 0) = some (.int .i64 x2) ∧ 
  cnd (decide (x2 > (1048576 : Int)))
  (((K (.int .i64 1) ((w.alloc (.cells #[.int .i64 p_0, .int .i64 p_1, .int .i64 p_2] 30)).drew)) ∧
(K (.int .i64 1) ((w.alloc (.cells #[.int .i64 p_0, .int .i64 p_1, .int .i64 p_2] 30)).drew))) ∧
((K (.int .i64 1) ((w.alloc (.cells #[.int .i64 p_0, .int .i64 p_1, .int .i64 p_2] 30)).drew)) ∧
(K (.int .i64 1) ((w.alloc (.cells #[.int .i64 p_0, .int .i64 p_1, .int .i64 p_2] 30)).drew))) ∧
(K (.int .i64 1) ((w.alloc (.cells #[.int .i64 p_0, .int .i64 p_1, .int .i64 p_2] 30)).drew)))
  (∃ x3 : Int, ((w.alloc (.cells #[.int .i64 p_0, .int .i64 p_1, .int .i64 p_2] 30)).drew).cell? ((Addr.mk w.heap.size 0 none).add 1) = some (.int .i64 x3) ∧ 
  cnd (decide (x3 < (1 : Int)))
  (((K (.int .i64 1) ((w.alloc (.cells #[.int .i64 p_0, .int .i64 p_1, .int .i64 p_2] 30)).drew)) ∧
(K (.int .i64 1) ((w.alloc (.cells #[.int .i64 p_0, .int .i64 p_1, .int .i64 p_2] 30)).drew))) ∧
((K (.int .i64 1) ((w.alloc (.cells #[.int .i64 p_0, .int .i64 p_1, .int .i64 p_2] 30)).drew)) ∧
(K (.int .i64 1) ((w.alloc (.cells #[.int .i64 p_0, .int .i64 p_1, .int .i64 p_2] 30)).drew))) ∧
(K (.int .i64 1) ((w.alloc (.cells #[.int .i64 p_0, .int .i64 p_1, .int .i64 p_2] 30)).drew)))
  (∃ x4 : Int, ((w.alloc (.cells #[.int .i64 p_0, .int .i64 p_1, .int .i64 p_2] 30)).drew).cell? ((Addr.mk w.heap.size 0 none).add 1) = some (.int .i64 x4) ∧ 
  cnd (decide (x4 > (1073741824 : Int)))
  (((K (.int .i64 1) ((w.alloc (.cells #[.int .i64 p_0, .int .i64 p_1, .int .i64 p_2] 30)).drew)) ∧
(K (.int .i64 1) ((w.alloc (.cells #[.int .i64 p_0, .int .i64 p_1, .int .i64 p_2] 30)).drew))) ∧
((K (.int .i64 1) ((w.alloc (.cells #[.int .i64 p_0, .int .i64 p_1, .int .i64 p_2] 30)).drew)) ∧
(K (.int .i64 1) ((w.alloc (.cells #[.int .i64 p_0, .int .i64 p_1, .int .i64 p_2] 30)).drew))) ∧
(K (.int .i64 1) ((w.alloc (.cells #[.int .i64 p_0, .int .i64 p_1, .int .i64 p_2] 30)).drew)))
  (∃ x5 : Int, ((w.alloc (.cells #[.int .i64 p_0, .int .i64 p_1, .int .i64 p_2] 30)).drew).cell? ((Addr.mk w.heap.size 0 none).add 2) = some (.int .i64 x5) ∧ 
  cnd (decide (x5 < (1 : Int)))
  (((K (.int .i64 1) ((w.alloc (.cells #[.int .i64 p_0, .int .i64 p_1, .int .i64 p_2] 30)).drew)) ∧
(K (.int .i64 1) ((w.alloc (.cells #[.int .i64 p_0, .int .i64 p_1, .int .i64 p_2] 30)).drew))) ∧
((K (.int .i64 1) ((w.alloc (.cells #[.int .i64 p_0, .int .i64 p_1, .int .i64 p_2] 30)).drew)) ∧
(K (.int .i64 1) ((w.alloc (.cells #[.int .i64 p_0, .int .i64 p_1, .int .i64 p_2] 30)).drew))) ∧
(K (.int .i64 1) ((w.alloc (.cells #[.int .i64 p_0, .int .i64 p_1, .int .i64 p_2] 30)).drew)))
  (∃ x6 : Int, ((w.alloc (.cells #[.int .i64 p_0, .int .i64 p_1, .int .i64 p_2] 30)).drew).cell? ((Addr.mk w.heap.size 0 none).add 1) = some (.int .i64 x6) ∧ 
  (∃ x7 : Int, ((w.alloc (.cells #[.int .i64 p_0, .int .i64 p_1, .int .i64 p_2] 30)).drew).cell? ((Addr.mk w.heap.size 0 none).add 2) = some (.int .i64 x7) ∧ 
  (∃ x8 : Int, ((w.alloc (.cells #[.int .i64 p_0, .int .i64 p_1, .int .i64 p_2] 30)).drew).cell? ((Addr.mk w.heap.size 0 none).add 0) = some (.int .i64 x8) ∧ 
  Calls Try.prog 57 #[.int .i64 x6] ((w.alloc (.cells #[.int .i64 p_0, .int .i64 p_1, .int .i64 p_2] 30)).drew) fun e w9 => ∃ r10 : Int, e = .returned (.int .i64 r10) ∧ 
  cnd (decide (x7 > (IntKind.i64.wrap (x8 * r10))))
  (K (.int .i64 1) w9)
  (K (.int .i64 0) w9)) ∧
(Calls Try.prog 57 #[.int .i64 x6] ((w.alloc (.cells #[.int .i64 p_0, .int .i64 p_1, .int .i64 p_2] 30)).drew) fun e w11 => ∃ r12 : Int, e = .returned (.int .i64 r12) ∧ 
  ∃ x13 : Int, w11.cell? ((Addr.mk w.heap.size 0 none).add 0) = some (.int .i64 x13) ∧ 
  cnd (decide (x7 > (IntKind.i64.wrap (x13 * r12))))
  (K (.int .i64 1) w11)
  (K (.int .i64 0) w11))) ∧
(∃ x14 : Int, ((w.alloc (.cells #[.int .i64 p_0, .int .i64 p_1, .int .i64 p_2] 30)).drew).cell? ((Addr.mk w.heap.size 0 none).add 0) = some (.int .i64 x14) ∧ 
  (∃ x15 : Int, ((w.alloc (.cells #[.int .i64 p_0, .int .i64 p_1, .int .i64 p_2] 30)).drew).cell? ((Addr.mk w.heap.size 0 none).add 2) = some (.int .i64 x15) ∧ 
  Calls Try.prog 57 #[.int .i64 x6] ((w.alloc (.cells #[.int .i64 p_0, .int .i64 p_1, .int .i64 p_2] 30)).drew) fun e w16 => ∃ r17 : Int, e = .returned (.int .i64 r17) ∧ 
  cnd (decide (x15 > (IntKind.i64.wrap (x14 * r17))))
  (K (.int .i64 1) w16)
  (K (.int .i64 0) w16)) ∧
(Calls Try.prog 57 #[.int .i64 x6] ((w.alloc (.cells #[.int .i64 p_0, .int .i64 p_1, .int .i64 p_2] 30)).drew) fun e w18 => ∃ r19 : Int, e = .returned (.int .i64 r19) ∧ 
  ∃ x20 : Int, w18.cell? ((Addr.mk w.heap.size 0 none).add 2) = some (.int .i64 x20) ∧ 
  cnd (decide (x20 > (IntKind.i64.wrap (x14 * r19))))
  (K (.int .i64 1) w18)
  (K (.int .i64 0) w18))) ∧
(Calls Try.prog 57 #[.int .i64 x6] ((w.alloc (.cells #[.int .i64 p_0, .int .i64 p_1, .int .i64 p_2] 30)).drew) fun e w21 => ∃ r22 : Int, e = .returned (.int .i64 r22) ∧ 
  ∃ x23 : Int, w21.cell? ((Addr.mk w.heap.size 0 none).add 2) = some (.int .i64 x23) ∧ 
  ∃ x24 : Int, w21.cell? ((Addr.mk w.heap.size 0 none).add 0) = some (.int .i64 x24) ∧ 
  cnd (decide (x23 > (IntKind.i64.wrap (x24 * r22))))
  (K (.int .i64 1) w21)
  (K (.int .i64 0) w21)))))))
theorem luby_Check.eq (p_0 : Int) (p_1 : Int) (p_2 : Int) (w : World) (K : Value → World → Prop) : wpF Try.prog Try.f22 .leaf [.agg #[.int .i64 p_0, .int .i64 p_1, .int .i64 p_2]] w K = luby_Check.w p_0 p_1 p_2 w K := by kernel_rfl
theorem luby_Check.ok : fnOk Try.prog Try.f22 1 = true := by kernel_rfl
theorem luby_Check.calls {p_0 : Int} {p_1 : Int} {p_2 : Int} {w : World} {R : Ending → World → Prop} (h : luby_Check.w p_0 p_1 p_2 w fun v w' => R (.returned v) w') : Calls Try.prog 22 #[.agg #[.int .i64 p_0, .int .i64 p_1, .int .i64 p_2]] w R :=
  calls_of mixed Try.func22 luby_Check.ok rfl (fun K => luby_Check.eq p_0 p_1 p_2 w K) h

/-! ### fathom/luby.Until: function 23 (named slots 3) -/
def luby_Until.w (p_0 : Int) (p_1 : Int) (p_2 : Int) (w : World) (K : Value → World → Prop) : Prop :=
  ∃ x1 : Int, ∃ x2 : Int, ∃ x3 : Int, CellsAt (w.alloc (.cells #[.int .i64 p_0, .int .i64 p_1, .int .i64 p_2] 30)) (Addr.mk w.heap.size 0 none) 0 [.int .i64 x1, .int .i64 x2, .int .i64 x3] ∧ 
  Calls Try.prog 22 #[.agg #[.int .i64 x1, .int .i64 x2, .int .i64 x3]] (w.alloc (.cells #[.int .i64 p_0, .int .i64 p_1, .int .i64 p_2] 30)) fun e w4 => ∃ r5 : Int, e = .returned (.int .i64 r5) ∧ 
  cnd (r5 != (0 : Int))
  (K (.int .i64 0) w4)
  (∃ x6 : Int, w4.cell? ((Addr.mk w.heap.size 0 none).add 2) = some (.int .i64 x6) ∧ 
    K (.int .i64 x6) w4)
theorem luby_Until.eq (p_0 : Int) (p_1 : Int) (p_2 : Int) (w : World) (K : Value → World → Prop) : wpF Try.prog Try.f23 .leaf [.agg #[.int .i64 p_0, .int .i64 p_1, .int .i64 p_2]] w K = luby_Until.w p_0 p_1 p_2 w K := by kernel_rfl
theorem luby_Until.ok : fnOk Try.prog Try.f23 1 = true := by kernel_rfl
theorem luby_Until.calls {p_0 : Int} {p_1 : Int} {p_2 : Int} {w : World} {R : Ending → World → Prop} (h : luby_Until.w p_0 p_1 p_2 w fun v w' => R (.returned v) w') : Calls Try.prog 23 #[.agg #[.int .i64 p_0, .int .i64 p_1, .int .i64 p_2]] w R :=
  calls_of mixed Try.func23 luby_Until.ok rfl (fun K => luby_Until.eq p_0 p_1 p_2 w K) h

/-! ### fathom/fathomref10.Tick: function 24 (named slots 5) -/
def fathomref10_Tick.w (p_0 : Int) (p_1 : Int) (p_2 : Int) (w : World) (K : Value → World → Prop) : Prop :=
  ∃ x1 : Int, ((w.alloc (.cells #[.int .i64 p_0, .int .i64 p_1, .int .i64 p_2] 30)).alloc (.cells #[.int .i64 0, .int .i64 0, .int .i64 0] 30)).cell? ((Addr.mk w.heap.size 0 none).add 2) = some (.int .i64 x1) ∧ 
  cnd (decide (x1 > (1 : Int)))
  (∃ x2 : Int, ((w.alloc (.cells #[.int .i64 p_0, .int .i64 p_1, .int .i64 p_2] 30)).alloc (.cells #[.int .i64 0, .int .i64 0, .int .i64 0] 30)).cell? ((Addr.mk w.heap.size 0 none).add 0) = some (.int .i64 x2) ∧ 
    ∃ x3 : Int, ((w.alloc (.cells #[.int .i64 p_0, .int .i64 p_1, .int .i64 p_2] 30)).alloc (.cells #[.int .i64 0, .int .i64 0, .int .i64 0] 30)).cell? ((Addr.mk w.heap.size 0 none).add 1) = some (.int .i64 x3) ∧ 
    ∃ x4 : Int, ((w.alloc (.cells #[.int .i64 p_0, .int .i64 p_1, .int .i64 p_2] 30)).alloc (.cells #[.int .i64 0, .int .i64 0, .int .i64 0] 30)).cell? ((Addr.mk w.heap.size 0 none).add 2) = some (.int .i64 x4) ∧ 
    ∃ w5 : World, StoreAt (Addr.mk (w.alloc (.cells #[.int .i64 p_0, .int .i64 p_1, .int .i64 p_2] 30)).heap.size 0 none) 0 [.int .i64 x2, .int .i64 x3, .int .i64 (IntKind.i64.wrap (x4 - (1 : Int)))] ((w.alloc (.cells #[.int .i64 p_0, .int .i64 p_1, .int .i64 p_2] 30)).alloc (.cells #[.int .i64 0, .int .i64 0, .int .i64 0] 30)) w5 ∧ 
    ∃ x6 : Int, ∃ x7 : Int, ∃ x8 : Int, CellsAt w5 (Addr.mk (w.alloc (.cells #[.int .i64 p_0, .int .i64 p_1, .int .i64 p_2] 30)).heap.size 0 none) 0 [.int .i64 x6, .int .i64 x7, .int .i64 x8] ∧ 
    K (.tuple #[.agg #[.int .i64 x6, .int .i64 x7, .int .i64 x8], .bool false]) w5)
  (∃ x9 : Int, ((w.alloc (.cells #[.int .i64 p_0, .int .i64 p_1, .int .i64 p_2] 30)).alloc (.cells #[.int .i64 0, .int .i64 0, .int .i64 0] 30)).cell? ((Addr.mk w.heap.size 0 none).add 1) = some (.int .i64 x9) ∧ 
    cnd (decide ((IntKind.i64.wrap (x9 + (1 : Int))) > (1073741824 : Int)))
    ((∃ x10 : Int, (((w.alloc (.cells #[.int .i64 p_0, .int .i64 p_1, .int .i64 p_2] 30)).alloc (.cells #[.int .i64 0, .int .i64 0, .int .i64 0] 30)).drew).cell? ((Addr.mk w.heap.size 0 none).add 0) = some (.int .i64 x10) ∧ 
      (∃ x11 : Int, (((w.alloc (.cells #[.int .i64 p_0, .int .i64 p_1, .int .i64 p_2] 30)).alloc (.cells #[.int .i64 0, .int .i64 0, .int .i64 0] 30)).drew).cell? ((Addr.mk w.heap.size 0 none).add 0) = some (.int .i64 x11) ∧ 
      Calls Try.prog 16 #[.int .i64 1] (((w.alloc (.cells #[.int .i64 p_0, .int .i64 p_1, .int .i64 p_2] 30)).alloc (.cells #[.int .i64 0, .int .i64 0, .int .i64 0] 30)).drew) fun e w12 => ∃ r13 : Int, e = .returned (.int .i64 r13) ∧ 
      ∃ w14 : World, StoreAt (Addr.mk (w.alloc (.cells #[.int .i64 p_0, .int .i64 p_1, .int .i64 p_2] 30)).heap.size 0 none) 0 [.int .i64 x10, .int .i64 1, .int .i64 (IntKind.i64.wrap (x11 * r13))] w12 w14 ∧ 
      ∃ x15 : Int, ∃ x16 : Int, ∃ x17 : Int, CellsAt w14 (Addr.mk (w.alloc (.cells #[.int .i64 p_0, .int .i64 p_1, .int .i64 p_2] 30)).heap.size 0 none) 0 [.int .i64 x15, .int .i64 x16, .int .i64 x17] ∧ 
      K (.tuple #[.agg #[.int .i64 x15, .int .i64 x16, .int .i64 x17], .bool true]) w14) ∧
    (Calls Try.prog 16 #[.int .i64 1] (((w.alloc (.cells #[.int .i64 p_0, .int .i64 p_1, .int .i64 p_2] 30)).alloc (.cells #[.int .i64 0, .int .i64 0, .int .i64 0] 30)).drew) fun e w18 => ∃ r19 : Int, e = .returned (.int .i64 r19) ∧ 
      ∃ x20 : Int, w18.cell? ((Addr.mk w.heap.size 0 none).add 0) = some (.int .i64 x20) ∧ 
      ∃ w21 : World, StoreAt (Addr.mk (w.alloc (.cells #[.int .i64 p_0, .int .i64 p_1, .int .i64 p_2] 30)).heap.size 0 none) 0 [.int .i64 x10, .int .i64 1, .int .i64 (IntKind.i64.wrap (x20 * r19))] w18 w21 ∧ 
      ∃ x22 : Int, ∃ x23 : Int, ∃ x24 : Int, CellsAt w21 (Addr.mk (w.alloc (.cells #[.int .i64 p_0, .int .i64 p_1, .int .i64 p_2] 30)).heap.size 0 none) 0 [.int .i64 x22, .int .i64 x23, .int .i64 x24] ∧ 
      K (.tuple #[.agg #[.int .i64 x22, .int .i64 x23, .int .i64 x24], .bool true]) w21)) ∧
    (∃ x25 : Int, (((w.alloc (.cells #[.int .i64 p_0, .int .i64 p_1, .int .i64 p_2] 30)).alloc (.cells #[.int .i64 0, .int .i64 0, .int .i64 0] 30)).drew).cell? ((Addr.mk w.heap.size 0 none).add 0) = some (.int .i64 x25) ∧ 
      (∃ x26 : Int, (((w.alloc (.cells #[.int .i64 p_0, .int .i64 p_1, .int .i64 p_2] 30)).alloc (.cells #[.int .i64 0, .int .i64 0, .int .i64 0] 30)).drew).cell? ((Addr.mk w.heap.size 0 none).add 0) = some (.int .i64 x26) ∧ 
      Calls Try.prog 16 #[.int .i64 1] (((w.alloc (.cells #[.int .i64 p_0, .int .i64 p_1, .int .i64 p_2] 30)).alloc (.cells #[.int .i64 0, .int .i64 0, .int .i64 0] 30)).drew) fun e w27 => ∃ r28 : Int, e = .returned (.int .i64 r28) ∧ 
      ∃ w29 : World, StoreAt (Addr.mk (w.alloc (.cells #[.int .i64 p_0, .int .i64 p_1, .int .i64 p_2] 30)).heap.size 0 none) 0 [.int .i64 x26, .int .i64 1, .int .i64 (IntKind.i64.wrap (x25 * r28))] w27 w29 ∧ 
      ∃ x30 : Int, ∃ x31 : Int, ∃ x32 : Int, CellsAt w29 (Addr.mk (w.alloc (.cells #[.int .i64 p_0, .int .i64 p_1, .int .i64 p_2] 30)).heap.size 0 none) 0 [.int .i64 x30, .int .i64 x31, .int .i64 x32] ∧ 
      K (.tuple #[.agg #[.int .i64 x30, .int .i64 x31, .int .i64 x32], .bool true]) w29) ∧
    (Calls Try.prog 16 #[.int .i64 1] (((w.alloc (.cells #[.int .i64 p_0, .int .i64 p_1, .int .i64 p_2] 30)).alloc (.cells #[.int .i64 0, .int .i64 0, .int .i64 0] 30)).drew) fun e w33 => ∃ r34 : Int, e = .returned (.int .i64 r34) ∧ 
      ∃ x35 : Int, w33.cell? ((Addr.mk w.heap.size 0 none).add 0) = some (.int .i64 x35) ∧ 
      ∃ w36 : World, StoreAt (Addr.mk (w.alloc (.cells #[.int .i64 p_0, .int .i64 p_1, .int .i64 p_2] 30)).heap.size 0 none) 0 [.int .i64 x35, .int .i64 1, .int .i64 (IntKind.i64.wrap (x25 * r34))] w33 w36 ∧ 
      ∃ x37 : Int, ∃ x38 : Int, ∃ x39 : Int, CellsAt w36 (Addr.mk (w.alloc (.cells #[.int .i64 p_0, .int .i64 p_1, .int .i64 p_2] 30)).heap.size 0 none) 0 [.int .i64 x37, .int .i64 x38, .int .i64 x39] ∧ 
      K (.tuple #[.agg #[.int .i64 x37, .int .i64 x38, .int .i64 x39], .bool true]) w36)) ∧
    (Calls Try.prog 16 #[.int .i64 1] (((w.alloc (.cells #[.int .i64 p_0, .int .i64 p_1, .int .i64 p_2] 30)).alloc (.cells #[.int .i64 0, .int .i64 0, .int .i64 0] 30)).drew) fun e w40 => ∃ r41 : Int, e = .returned (.int .i64 r41) ∧ 
      ∃ x42 : Int, w40.cell? ((Addr.mk w.heap.size 0 none).add 0) = some (.int .i64 x42) ∧ 
      ∃ x43 : Int, w40.cell? ((Addr.mk w.heap.size 0 none).add 0) = some (.int .i64 x43) ∧ 
      ∃ w44 : World, StoreAt (Addr.mk (w.alloc (.cells #[.int .i64 p_0, .int .i64 p_1, .int .i64 p_2] 30)).heap.size 0 none) 0 [.int .i64 x42, .int .i64 1, .int .i64 (IntKind.i64.wrap (x43 * r41))] w40 w44 ∧ 
      ∃ x45 : Int, ∃ x46 : Int, ∃ x47 : Int, CellsAt w44 (Addr.mk (w.alloc (.cells #[.int .i64 p_0, .int .i64 p_1, .int .i64 p_2] 30)).heap.size 0 none) 0 [.int .i64 x45, .int .i64 x46, .int .i64 x47] ∧ 
      K (.tuple #[.agg #[.int .i64 x45, .int .i64 x46, .int .i64 x47], .bool true]) w44))
    ((∃ x48 : Int, (((w.alloc (.cells #[.int .i64 p_0, .int .i64 p_1, .int .i64 p_2] 30)).alloc (.cells #[.int .i64 0, .int .i64 0, .int .i64 0] 30)).drew).cell? ((Addr.mk w.heap.size 0 none).add 0) = some (.int .i64 x48) ∧ 
      (∃ x49 : Int, (((w.alloc (.cells #[.int .i64 p_0, .int .i64 p_1, .int .i64 p_2] 30)).alloc (.cells #[.int .i64 0, .int .i64 0, .int .i64 0] 30)).drew).cell? ((Addr.mk w.heap.size 0 none).add 0) = some (.int .i64 x49) ∧ 
      Calls Try.prog 16 #[.int .i64 (IntKind.i64.wrap (x9 + (1 : Int)))] (((w.alloc (.cells #[.int .i64 p_0, .int .i64 p_1, .int .i64 p_2] 30)).alloc (.cells #[.int .i64 0, .int .i64 0, .int .i64 0] 30)).drew) fun e w50 => ∃ r51 : Int, e = .returned (.int .i64 r51) ∧ 
      ∃ w52 : World, StoreAt (Addr.mk (w.alloc (.cells #[.int .i64 p_0, .int .i64 p_1, .int .i64 p_2] 30)).heap.size 0 none) 0 [.int .i64 x48, .int .i64 (IntKind.i64.wrap (x9 + (1 : Int))), .int .i64 (IntKind.i64.wrap (x49 * r51))] w50 w52 ∧ 
      ∃ x53 : Int, ∃ x54 : Int, ∃ x55 : Int, CellsAt w52 (Addr.mk (w.alloc (.cells #[.int .i64 p_0, .int .i64 p_1, .int .i64 p_2] 30)).heap.size 0 none) 0 [.int .i64 x53, .int .i64 x54, .int .i64 x55] ∧ 
      K (.tuple #[.agg #[.int .i64 x53, .int .i64 x54, .int .i64 x55], .bool true]) w52) ∧
    (Calls Try.prog 16 #[.int .i64 (IntKind.i64.wrap (x9 + (1 : Int)))] (((w.alloc (.cells #[.int .i64 p_0, .int .i64 p_1, .int .i64 p_2] 30)).alloc (.cells #[.int .i64 0, .int .i64 0, .int .i64 0] 30)).drew) fun e w56 => ∃ r57 : Int, e = .returned (.int .i64 r57) ∧ 
      ∃ x58 : Int, w56.cell? ((Addr.mk w.heap.size 0 none).add 0) = some (.int .i64 x58) ∧ 
      ∃ w59 : World, StoreAt (Addr.mk (w.alloc (.cells #[.int .i64 p_0, .int .i64 p_1, .int .i64 p_2] 30)).heap.size 0 none) 0 [.int .i64 x48, .int .i64 (IntKind.i64.wrap (x9 + (1 : Int))), .int .i64 (IntKind.i64.wrap (x58 * r57))] w56 w59 ∧ 
      ∃ x60 : Int, ∃ x61 : Int, ∃ x62 : Int, CellsAt w59 (Addr.mk (w.alloc (.cells #[.int .i64 p_0, .int .i64 p_1, .int .i64 p_2] 30)).heap.size 0 none) 0 [.int .i64 x60, .int .i64 x61, .int .i64 x62] ∧ 
      K (.tuple #[.agg #[.int .i64 x60, .int .i64 x61, .int .i64 x62], .bool true]) w59)) ∧
    (∃ x63 : Int, (((w.alloc (.cells #[.int .i64 p_0, .int .i64 p_1, .int .i64 p_2] 30)).alloc (.cells #[.int .i64 0, .int .i64 0, .int .i64 0] 30)).drew).cell? ((Addr.mk w.heap.size 0 none).add 0) = some (.int .i64 x63) ∧ 
      (∃ x64 : Int, (((w.alloc (.cells #[.int .i64 p_0, .int .i64 p_1, .int .i64 p_2] 30)).alloc (.cells #[.int .i64 0, .int .i64 0, .int .i64 0] 30)).drew).cell? ((Addr.mk w.heap.size 0 none).add 0) = some (.int .i64 x64) ∧ 
      Calls Try.prog 16 #[.int .i64 (IntKind.i64.wrap (x9 + (1 : Int)))] (((w.alloc (.cells #[.int .i64 p_0, .int .i64 p_1, .int .i64 p_2] 30)).alloc (.cells #[.int .i64 0, .int .i64 0, .int .i64 0] 30)).drew) fun e w65 => ∃ r66 : Int, e = .returned (.int .i64 r66) ∧ 
      ∃ w67 : World, StoreAt (Addr.mk (w.alloc (.cells #[.int .i64 p_0, .int .i64 p_1, .int .i64 p_2] 30)).heap.size 0 none) 0 [.int .i64 x64, .int .i64 (IntKind.i64.wrap (x9 + (1 : Int))), .int .i64 (IntKind.i64.wrap (x63 * r66))] w65 w67 ∧ 
      ∃ x68 : Int, ∃ x69 : Int, ∃ x70 : Int, CellsAt w67 (Addr.mk (w.alloc (.cells #[.int .i64 p_0, .int .i64 p_1, .int .i64 p_2] 30)).heap.size 0 none) 0 [.int .i64 x68, .int .i64 x69, .int .i64 x70] ∧ 
      K (.tuple #[.agg #[.int .i64 x68, .int .i64 x69, .int .i64 x70], .bool true]) w67) ∧
    (Calls Try.prog 16 #[.int .i64 (IntKind.i64.wrap (x9 + (1 : Int)))] (((w.alloc (.cells #[.int .i64 p_0, .int .i64 p_1, .int .i64 p_2] 30)).alloc (.cells #[.int .i64 0, .int .i64 0, .int .i64 0] 30)).drew) fun e w71 => ∃ r72 : Int, e = .returned (.int .i64 r72) ∧ 
      ∃ x73 : Int, w71.cell? ((Addr.mk w.heap.size 0 none).add 0) = some (.int .i64 x73) ∧ 
      ∃ w74 : World, StoreAt (Addr.mk (w.alloc (.cells #[.int .i64 p_0, .int .i64 p_1, .int .i64 p_2] 30)).heap.size 0 none) 0 [.int .i64 x73, .int .i64 (IntKind.i64.wrap (x9 + (1 : Int))), .int .i64 (IntKind.i64.wrap (x63 * r72))] w71 w74 ∧ 
      ∃ x75 : Int, ∃ x76 : Int, ∃ x77 : Int, CellsAt w74 (Addr.mk (w.alloc (.cells #[.int .i64 p_0, .int .i64 p_1, .int .i64 p_2] 30)).heap.size 0 none) 0 [.int .i64 x75, .int .i64 x76, .int .i64 x77] ∧ 
      K (.tuple #[.agg #[.int .i64 x75, .int .i64 x76, .int .i64 x77], .bool true]) w74)) ∧
    (Calls Try.prog 16 #[.int .i64 (IntKind.i64.wrap (x9 + (1 : Int)))] (((w.alloc (.cells #[.int .i64 p_0, .int .i64 p_1, .int .i64 p_2] 30)).alloc (.cells #[.int .i64 0, .int .i64 0, .int .i64 0] 30)).drew) fun e w78 => ∃ r79 : Int, e = .returned (.int .i64 r79) ∧ 
      ∃ x80 : Int, w78.cell? ((Addr.mk w.heap.size 0 none).add 0) = some (.int .i64 x80) ∧ 
      ∃ x81 : Int, w78.cell? ((Addr.mk w.heap.size 0 none).add 0) = some (.int .i64 x81) ∧ 
      ∃ w82 : World, StoreAt (Addr.mk (w.alloc (.cells #[.int .i64 p_0, .int .i64 p_1, .int .i64 p_2] 30)).heap.size 0 none) 0 [.int .i64 x80, .int .i64 (IntKind.i64.wrap (x9 + (1 : Int))), .int .i64 (IntKind.i64.wrap (x81 * r79))] w78 w82 ∧ 
      ∃ x83 : Int, ∃ x84 : Int, ∃ x85 : Int, CellsAt w82 (Addr.mk (w.alloc (.cells #[.int .i64 p_0, .int .i64 p_1, .int .i64 p_2] 30)).heap.size 0 none) 0 [.int .i64 x83, .int .i64 x84, .int .i64 x85] ∧ 
      K (.tuple #[.agg #[.int .i64 x83, .int .i64 x84, .int .i64 x85], .bool true]) w82)))
theorem fathomref10_Tick.eq (p_0 : Int) (p_1 : Int) (p_2 : Int) (w : World) (K : Value → World → Prop) : wpF Try.prog Try.f24 .leaf [.agg #[.int .i64 p_0, .int .i64 p_1, .int .i64 p_2]] w K = fathomref10_Tick.w p_0 p_1 p_2 w K := by kernel_rfl
theorem fathomref10_Tick.ok : fnOk Try.prog Try.f24 1 = true := by kernel_rfl
theorem fathomref10_Tick.calls {p_0 : Int} {p_1 : Int} {p_2 : Int} {w : World} {R : Ending → World → Prop} (h : fathomref10_Tick.w p_0 p_1 p_2 w fun v w' => R (.returned v) w') : Calls Try.prog 24 #[.agg #[.int .i64 p_0, .int .i64 p_1, .int .i64 p_2]] w R :=
  calls_of mixed Try.func24 fathomref10_Tick.ok rfl (fun K => fathomref10_Tick.eq p_0 p_1 p_2 w K) h

/-! ### fathom/luby.Start: function 25 (named slots 4) -/
def luby_Start.w (u_ : Int) (w : World) (K : Value → World → Prop) : Prop :=
  cnd (decide (u_ < (1 : Int)))
  (∃ w1 : World, StoreAt (Addr.mk w.heap.size 0 none) 0 [.int .i64 0, .int .i64 0, .int .i64 0] (w.alloc (.cells #[.int .i64 0, .int .i64 0, .int .i64 0] 30)) w1 ∧ 
  ∃ x2 : Int, ∃ x3 : Int, ∃ x4 : Int, CellsAt w1 (Addr.mk w.heap.size 0 none) 0 [.int .i64 x2, .int .i64 x3, .int .i64 x4] ∧ 
  K (.tuple #[.agg #[.int .i64 x2, .int .i64 x3, .int .i64 x4], .int .i64 1]) w1)
  (cnd (decide (u_ > (1048576 : Int)))
  (∃ w5 : World, StoreAt (Addr.mk w.heap.size 0 none) 0 [.int .i64 0, .int .i64 0, .int .i64 0] (w.alloc (.cells #[.int .i64 0, .int .i64 0, .int .i64 0] 30)) w5 ∧ 
    ∃ x6 : Int, ∃ x7 : Int, ∃ x8 : Int, CellsAt w5 (Addr.mk w.heap.size 0 none) 0 [.int .i64 x6, .int .i64 x7, .int .i64 x8] ∧ 
    K (.tuple #[.agg #[.int .i64 x6, .int .i64 x7, .int .i64 x8], .int .i64 1]) w5)
  (∃ w9 : World, StoreAt (Addr.mk w.heap.size 0 none) 0 [.int .i64 u_, .int .i64 1, .int .i64 u_] (w.alloc (.cells #[.int .i64 0, .int .i64 0, .int .i64 0] 30)) w9 ∧ 
    ∃ x10 : Int, ∃ x11 : Int, ∃ x12 : Int, CellsAt w9 (Addr.mk w.heap.size 0 none) 0 [.int .i64 x10, .int .i64 x11, .int .i64 x12] ∧ 
    K (.tuple #[.agg #[.int .i64 x10, .int .i64 x11, .int .i64 x12], .int .i64 0]) w9))
theorem luby_Start.eq (u_ : Int) (w : World) (K : Value → World → Prop) : wpF Try.prog Try.f25 .leaf [.int .i64 u_] w K = luby_Start.w u_ w K := by kernel_rfl
theorem luby_Start.ok : fnOk Try.prog Try.f25 1 = true := by kernel_rfl
theorem luby_Start.calls {u_ : Int} {w : World} {R : Ending → World → Prop} (h : luby_Start.w u_ w fun v w' => R (.returned v) w') : Calls Try.prog 25 #[.int .i64 u_] w R :=
  calls_of mixed Try.func25 luby_Start.ok rfl (fun K => luby_Start.eq u_ w K) h

/-! ### fathom/luby.number: function 57 (named slots 4) -/
def luby_number.w (i_ : Int) (w : World) (K : Value → World → Prop) : Prop :=
  ∃ I1 : Int → World → Nat → Prop, (∃ k2, I1 i_ w k2) ∧
  ∀ (i_4 : Int) (w5 : World) (k2 : Nat) (_ : Fr), I1 i_4 w5 k2 →
  Calls Try.prog 58 #[.int .u64 (IntKind.u64.wrap i_4)] w5 fun e w6 => ∃ r7 : Int, e = .returned (.int .i64 r7) ∧ 
    0 ≤ r7 ∧ cnd (i_4 == (IntKind.i64.wrap ((IntKind.i64.wrap ((1 : Int) * 2 ^ (min r7.toNat (IntKind.bits .i64)))) - (1 : Int))))
    (0 ≤ (IntKind.i64.wrap (r7 - (1 : Int))) ∧ K (.int .i64 (IntKind.i64.wrap ((1 : Int) * 2 ^ (min (IntKind.i64.wrap (r7 - (1 : Int))).toNat (IntKind.bits .i64))))) w6)
    (0 ≤ (IntKind.i64.wrap (r7 - (1 : Int))) ∧ ∃ k3, k3 < k2 ∧ I1 (IntKind.i64.wrap (i_4 - (IntKind.i64.wrap ((IntKind.i64.wrap ((1 : Int) * 2 ^ (min (IntKind.i64.wrap (r7 - (1 : Int))).toNat (IntKind.bits .i64)))) - (1 : Int))))) w6 k3)
theorem luby_number.eq (i_ : Int) (w : World) (K : Value → World → Prop) : wpF Try.prog Try.f57 (.two .leaf (.one (.loop [(0, 3)] .leaf))) [.int .i64 i_] w K = luby_number.w i_ w K := by kernel_rfl
theorem luby_number.ok : fnOk Try.prog Try.f57 1 = true := by kernel_rfl
theorem luby_number.calls {i_ : Int} {w : World} {R : Ending → World → Prop} (h : luby_number.w i_ w fun v w' => R (.returned v) w') : Calls Try.prog 57 #[.int .i64 i_] w R :=
  calls_of mixed Try.func57 luby_number.ok rfl (fun K => luby_number.eq i_ w K) h

/-! ### math/bits.Len: function 58 (named slots 3) -/
def bits_Len.w (x0_ : Int) (w : World) (K : Value → World → Prop) : Prop :=
  Calls Try.prog 81 #[.int .u64 x0_] w fun e w1 => ∃ r2 : Int, e = .returned (.int .i64 r2) ∧ 
  K (.int .i64 r2) w1
theorem bits_Len.eq (x0_ : Int) (w : World) (K : Value → World → Prop) : wpF Try.prog Try.f58 .leaf [.int .u64 x0_] w K = bits_Len.w x0_ w K := by kernel_rfl
theorem bits_Len.ok : fnOk Try.prog Try.f58 1 = true := by kernel_rfl
theorem bits_Len.calls {x0_ : Int} {w : World} {R : Ending → World → Prop} (h : bits_Len.w x0_ w fun v w' => R (.returned v) w') : Calls Try.prog 58 #[.int .u64 x0_] w R :=
  calls_of mixed Try.func58 bits_Len.ok rfl (fun K => bits_Len.eq x0_ w K) h

/-! ### math/bits.Len32: function 80 (named slots 3) -/
def bits_Len32.w (x0_ : Int) (w : World) (K : Value → World → Prop) : Prop :=
  cnd (decide (x0_ ≥ (65536 : Int)))
  (0 ≤ (16 : Int) ∧ cnd (decide ((x0_.fdiv (2 ^ (min (16 : Int).toNat (IntKind.bits .u32)))) ≥ (256 : Int)))
    (0 ≤ (8 : Int) ∧ ∃ b1, 0 ≤ (IntKind.u8.wrap ((x0_.fdiv (2 ^ (min (16 : Int).toNat (IntKind.bits .u32)))).fdiv (2 ^ (min (8 : Int).toNat (IntKind.bits .u32))))) ∧ strtab0[(IntKind.u8.wrap ((x0_.fdiv (2 ^ (min (16 : Int).toNat (IntKind.bits .u32)))).fdiv (2 ^ (min (8 : Int).toNat (IntKind.bits .u32))))).toNat]? = some b1 ∧ 
      K (.int .i64 (IntKind.i64.wrap ((IntKind.i64.wrap ((16 : Int) + (8 : Int))) + (IntKind.i64.wrap (b1.toNat : Int))))) w)
    (∃ b2, 0 ≤ (IntKind.u8.wrap (x0_.fdiv (2 ^ (min (16 : Int).toNat (IntKind.bits .u32))))) ∧ strtab0[(IntKind.u8.wrap (x0_.fdiv (2 ^ (min (16 : Int).toNat (IntKind.bits .u32))))).toNat]? = some b2 ∧ 
      K (.int .i64 (IntKind.i64.wrap ((16 : Int) + (IntKind.i64.wrap (b2.toNat : Int))))) w))
  (cnd (decide (x0_ ≥ (256 : Int)))
    (0 ≤ (8 : Int) ∧ ∃ b3, 0 ≤ (IntKind.u8.wrap (x0_.fdiv (2 ^ (min (8 : Int).toNat (IntKind.bits .u32))))) ∧ strtab0[(IntKind.u8.wrap (x0_.fdiv (2 ^ (min (8 : Int).toNat (IntKind.bits .u32))))).toNat]? = some b3 ∧ 
      K (.int .i64 (IntKind.i64.wrap ((IntKind.i64.wrap ((0 : Int) + (8 : Int))) + (IntKind.i64.wrap (b3.toNat : Int))))) w)
    (∃ b4, 0 ≤ (IntKind.u8.wrap x0_) ∧ strtab0[(IntKind.u8.wrap x0_).toNat]? = some b4 ∧ 
      K (.int .i64 (IntKind.i64.wrap ((0 : Int) + (IntKind.i64.wrap (b4.toNat : Int))))) w))
theorem bits_Len32.eq (x0_ : Int) (w : World) (K : Value → World → Prop) : wpF Try.prog Try.f80 .leaf [.int .u32 x0_] w K = bits_Len32.w x0_ w K := by kernel_rfl
theorem bits_Len32.ok : fnOk Try.prog Try.f80 1 = true := by kernel_rfl
theorem bits_Len32.calls {x0_ : Int} {w : World} {R : Ending → World → Prop} (h : bits_Len32.w x0_ w fun v w' => R (.returned v) w') : Calls Try.prog 80 #[.int .u32 x0_] w R :=
  calls_of mixed Try.func80 bits_Len32.ok rfl (fun K => bits_Len32.eq x0_ w K) h

/-! ### math/bits.Len64: function 81 (named slots 3) -/
def bits_Len64.w (x0_ : Int) (w : World) (K : Value → World → Prop) : Prop :=
  cnd (decide (x0_ ≥ (4294967296 : Int)))
  (0 ≤ (32 : Int) ∧ cnd (decide ((x0_.fdiv (2 ^ (min (32 : Int).toNat (IntKind.bits .u64)))) ≥ (65536 : Int)))
    (0 ≤ (16 : Int) ∧ cnd (decide (((x0_.fdiv (2 ^ (min (32 : Int).toNat (IntKind.bits .u64)))).fdiv (2 ^ (min (16 : Int).toNat (IntKind.bits .u64)))) ≥ (256 : Int)))
      (0 ≤ (8 : Int) ∧ ∃ b1, 0 ≤ (IntKind.u8.wrap (((x0_.fdiv (2 ^ (min (32 : Int).toNat (IntKind.bits .u64)))).fdiv (2 ^ (min (16 : Int).toNat (IntKind.bits .u64)))).fdiv (2 ^ (min (8 : Int).toNat (IntKind.bits .u64))))) ∧ strtab0[(IntKind.u8.wrap (((x0_.fdiv (2 ^ (min (32 : Int).toNat (IntKind.bits .u64)))).fdiv (2 ^ (min (16 : Int).toNat (IntKind.bits .u64)))).fdiv (2 ^ (min (8 : Int).toNat (IntKind.bits .u64))))).toNat]? = some b1 ∧ 
        K (.int .i64 (IntKind.i64.wrap ((IntKind.i64.wrap ((IntKind.i64.wrap ((32 : Int) + (16 : Int))) + (8 : Int))) + (IntKind.i64.wrap (b1.toNat : Int))))) w)
      (∃ b2, 0 ≤ (IntKind.u8.wrap ((x0_.fdiv (2 ^ (min (32 : Int).toNat (IntKind.bits .u64)))).fdiv (2 ^ (min (16 : Int).toNat (IntKind.bits .u64))))) ∧ strtab0[(IntKind.u8.wrap ((x0_.fdiv (2 ^ (min (32 : Int).toNat (IntKind.bits .u64)))).fdiv (2 ^ (min (16 : Int).toNat (IntKind.bits .u64))))).toNat]? = some b2 ∧ 
        K (.int .i64 (IntKind.i64.wrap ((IntKind.i64.wrap ((32 : Int) + (16 : Int))) + (IntKind.i64.wrap (b2.toNat : Int))))) w))
    (cnd (decide ((x0_.fdiv (2 ^ (min (32 : Int).toNat (IntKind.bits .u64)))) ≥ (256 : Int)))
      (0 ≤ (8 : Int) ∧ ∃ b3, 0 ≤ (IntKind.u8.wrap ((x0_.fdiv (2 ^ (min (32 : Int).toNat (IntKind.bits .u64)))).fdiv (2 ^ (min (8 : Int).toNat (IntKind.bits .u64))))) ∧ strtab0[(IntKind.u8.wrap ((x0_.fdiv (2 ^ (min (32 : Int).toNat (IntKind.bits .u64)))).fdiv (2 ^ (min (8 : Int).toNat (IntKind.bits .u64))))).toNat]? = some b3 ∧ 
        K (.int .i64 (IntKind.i64.wrap ((IntKind.i64.wrap ((32 : Int) + (8 : Int))) + (IntKind.i64.wrap (b3.toNat : Int))))) w)
      (∃ b4, 0 ≤ (IntKind.u8.wrap (x0_.fdiv (2 ^ (min (32 : Int).toNat (IntKind.bits .u64))))) ∧ strtab0[(IntKind.u8.wrap (x0_.fdiv (2 ^ (min (32 : Int).toNat (IntKind.bits .u64))))).toNat]? = some b4 ∧ 
        K (.int .i64 (IntKind.i64.wrap ((32 : Int) + (IntKind.i64.wrap (b4.toNat : Int))))) w)))
  (cnd (decide (x0_ ≥ (65536 : Int)))
    (0 ≤ (16 : Int) ∧ cnd (decide ((x0_.fdiv (2 ^ (min (16 : Int).toNat (IntKind.bits .u64)))) ≥ (256 : Int)))
      (0 ≤ (8 : Int) ∧ ∃ b5, 0 ≤ (IntKind.u8.wrap ((x0_.fdiv (2 ^ (min (16 : Int).toNat (IntKind.bits .u64)))).fdiv (2 ^ (min (8 : Int).toNat (IntKind.bits .u64))))) ∧ strtab0[(IntKind.u8.wrap ((x0_.fdiv (2 ^ (min (16 : Int).toNat (IntKind.bits .u64)))).fdiv (2 ^ (min (8 : Int).toNat (IntKind.bits .u64))))).toNat]? = some b5 ∧ 
        K (.int .i64 (IntKind.i64.wrap ((IntKind.i64.wrap ((IntKind.i64.wrap ((0 : Int) + (16 : Int))) + (8 : Int))) + (IntKind.i64.wrap (b5.toNat : Int))))) w)
      (∃ b6, 0 ≤ (IntKind.u8.wrap (x0_.fdiv (2 ^ (min (16 : Int).toNat (IntKind.bits .u64))))) ∧ strtab0[(IntKind.u8.wrap (x0_.fdiv (2 ^ (min (16 : Int).toNat (IntKind.bits .u64))))).toNat]? = some b6 ∧ 
        K (.int .i64 (IntKind.i64.wrap ((IntKind.i64.wrap ((0 : Int) + (16 : Int))) + (IntKind.i64.wrap (b6.toNat : Int))))) w))
    (cnd (decide (x0_ ≥ (256 : Int)))
      (0 ≤ (8 : Int) ∧ ∃ b7, 0 ≤ (IntKind.u8.wrap (x0_.fdiv (2 ^ (min (8 : Int).toNat (IntKind.bits .u64))))) ∧ strtab0[(IntKind.u8.wrap (x0_.fdiv (2 ^ (min (8 : Int).toNat (IntKind.bits .u64))))).toNat]? = some b7 ∧ 
        K (.int .i64 (IntKind.i64.wrap ((IntKind.i64.wrap ((0 : Int) + (8 : Int))) + (IntKind.i64.wrap (b7.toNat : Int))))) w)
      (∃ b8, 0 ≤ (IntKind.u8.wrap x0_) ∧ strtab0[(IntKind.u8.wrap x0_).toNat]? = some b8 ∧ 
        K (.int .i64 (IntKind.i64.wrap ((0 : Int) + (IntKind.i64.wrap (b8.toNat : Int))))) w)))
theorem bits_Len64.eq (x0_ : Int) (w : World) (K : Value → World → Prop) : wpF Try.prog Try.f81 .leaf [.int .u64 x0_] w K = bits_Len64.w x0_ w K := by kernel_rfl
theorem bits_Len64.ok : fnOk Try.prog Try.f81 1 = true := by kernel_rfl
theorem bits_Len64.calls {x0_ : Int} {w : World} {R : Ending → World → Prop} (h : bits_Len64.w x0_ w fun v w' => R (.returned v) w') : Calls Try.prog 81 #[.int .u64 x0_] w R :=
  calls_of mixed Try.func81 bits_Len64.ok rfl (fun K => bits_Len64.eq x0_ w K) h

end Go.Proofs.Ytamckcamloelbaa.W
